/-
  What is proved: the calculus of sub-heaps for functions that defer one call, and for deferred functions, with or without 'recover' as their first operation. Conditions: none beyond those that each theorem names.
-/
import Derived.Test.YtpgooljdodijlaaCG
import Derived.Conc.Own4
namespace Go.Sp
open Go.Conc

theorem run_callFunc {P : Program} {f : FuncId} (hf : bodied P f = true) (args : Array Value) (w : World) (es : Array Event) : (callFunc f args).runT P w es = (.ok (.enter f args) w, es) := by
  unfold bodied at hf
  cases h : P.funcs[f]? with
  | none => rw [h] at hf; cases hf
  | some fn =>
    rw [h] at hf
    simp only [Bool.and_eq_true, Bool.not_eq_true', Option.isSome_iff_ne_none, ne_eq] at hf
    have h2 : fn.body.isNone = false := by cases hb : fn.body <;> simp_all
    have h3 : callFunc f args = Sem.bind program fun p => match p.funcs[f]? with
      | none => stuck "call: no such function"
      | some fn =>
        if fn.name == "runtime.NumGoroutine" then pure .numGoroutine
        else if fn.body.isNone then do
          mark (.extern f)
          if let some e := Extern.findNext fn then return ← e args
          match Extern.find fn with
          | some e => pure (.value (← e args))
          | none =>
            if fn.name.endsWith ".init" && !fn.name.startsWith "(" && !fn.name.startsWith "gosem." then pure (.value (.tuple #[]))
            else unsupported (.extern fn.name)
        else pure (.enter f args) := rfl
    rw [h3]
    simp only [program, Sem.bind, Sem.runT, h, hf.1, h2, Bool.false_eq_true, if_false]
    rfl

theorem run_callFunc1 {P : Program} {f : FuncId} (hf : bodied P f = true) (args : Array Value) (w : World) : (callFunc f args).run P w = .ok (.enter f args) w := by
  rw [← Sem.runT_fst P _ w #[], run_callFunc hf]
theorem run_callFunc2 {P : Program} {f : FuncId} (hf : bodied P f = true) (args : Array Value) (w : World) : (callFunc f args).events P w #[] = #[] := by
  show ((callFunc f args).runT P w #[]).2 = _
  rw [run_callFunc hf]
section
variable {P : Program} {main : Bool}
/-- A frame that is left calls what it had deferred. -/
theorem stepG_deferred {fr : Frame} {cs : List Frame} {d : Deferred} {ds : List Deferred} {f : FuncId} {cap : Array Value} (hm : (match fr.mode with | .run => false | _ => true) = true) (hd : fr.defers = d :: ds) (ht : d.target = .fn (.func f) cap) (hf : bodied P f = true) (w : World) :
    stepG P main (G fr cs) w = .go (G (Frame.enter P f (d.args ++ cap) .deferred) ({ fr with defers := ds } :: cs)) w #[] := by
  obtain ⟨t, args⟩ := d
  dsimp only at ht
  subst ht
  cases hmm : fr.mode with
  | run => rw [hmm] at hm; cases hm
  | returning => simp [G, stepG, unwind, hmm, hd, callDeferred, invoke, run_callFunc1 hf, run_callFunc2 hf, GStep.after, seen_none]
  | panicking ch => simp [G, stepG, unwind, hmm, hd, callDeferred, invoke, run_callFunc1 hf, run_callFunc2 hf, GStep.after, seen_none]

/-- What is under way in the caller: a return; or a panic. -/
def amid (c : Frame) : Option Value → Prop
  | none => c.mode = .returning
  | some v => c.mode = .panicking [{ v, recovered := false }]
/-- What is asked of a deferred call: wherever it stands, it comes back as 'K' says ('rec': the panic under way, if any; 'gone': it is recovered). -/
def DeferM (P : Program) (f : FuncId) (args : Array Value) (m : Mem) (rec : Option Value) (gone : Bool) (K : Mem → Prop) : Prop :=
  ∀ (main : Bool) (c : Frame) (cs : List Frame),
    amid c rec →
    (∀ m', K m' → RunM P main (G (if gone = true then { c with mode := .returning } else c) cs) m') →
    RunM P main (G (Frame.enter P f args .deferred) (c :: cs)) m

/-- What a body of a deferred function is left with. -/
def bodyV (P : Program) (fn : Func) (K : Mem → Prop) : Exit → Act → Mem → Prop
  | .normal, a, m => a.defers = [] ∧ (results fn a.tmps).wpm P (fun _ _ => False) (fun _ m' => ∃ m'', m''.le m' ∧ K m'') m
  | .ret, a, m => a.defers = [] ∧ (results fn a.tmps).wpm P (fun _ _ => False) (fun _ m' => ∃ m'', m''.le m' ∧ K m'') m
  | _, _, _ => False

theorem runM_back {fr c c' : Frame} {cs : List Frame} {fn : Func} {m : Mem} {K : Mem → Prop} (hm : fr.mode = .returning) (hd : fr.defers = []) (hk : fr.kind = .deferred) (hf : P.funcs[fr.fn]? = some fn)
    (hr : (results fn fr.tmps).wpm P (fun _ _ => False) (fun _ m' => ∃ m'', m''.le m' ∧ K m'') m)
    (hc : c' = (match c.mode with | .panicking ({ recovered := true, .. } :: older) => (match older.dropWhile (!·.goexit) with | [] => { c with mode := .returning } | rest => { c with mode := .panicking rest }) | _ => c))
    (h : ∀ m', K m' → RunM P main (G c' cs) m') : RunM P main (G fr (c :: cs)) m := by
  intro X s w hmw ho hs
  refine .step' fun d => ?_
  have hrun := wpm_run (X := X) (s := s) _ _ m hr (w.at d) hmw ho hs
  have hev : ((results fn fr.tmps).runT P (w.at d) #[]).2 = (results fn fr.tmps).events P (w.at d) #[] := rfl
  rw [hev] at hrun
  cases hrr : (results fn fr.tmps).run P (w.at d) with
  | ok v w' =>
    rw [hrr] at hrun
    obtain ⟨m', ⟨m'', hl, q⟩, ho', hw', hst, g⟩ := hrun
    refine ⟨c', cs, w', seen P fr.fn ((results fn fr.tmps).events P (w.at d) #[]), ?_, g.fewer (seen_sub P fr.fn _), ((h m'' q).le hl).use hst ho' hw' (Nat.le_trans hs g.size)⟩
    subst hc
    simp [G, stepG, unwind, doReturn, hm, hd, hk, hf, hrr, GStep.after]
    rfl
  | halt x w' => rw [hrr] at hrun; cases x <;> first | exact hrun.elim | (obtain ⟨_, z, _⟩ := hrun; exact z.elim)
/-- A deferred function that asks for no panic: it comes back to whatever was under way. -/
theorem deferM_of_wps {f : FuncId} {fn : Func} {c : Code} {args : Array Value} {m : Mem} {rec : Option Value} {K : Mem → Prop} (hf : P.funcs[f]? = some fn) (hb : fn.body = some c)
    (h : c.wps P (bodyV P fn K) { tmps := args ++ Array.replicate (fn.ntmps - args.size) undef, defers := [] } m) : DeferM P f args m rec false K := by
  intro main c' cs hc h1
  let b : Frame := { (default : Frame) with fn := f, kind := .deferred }
  have henter : Frame.enter P f args .deferred = b.at { tmps := args ++ Array.replicate (fn.ntmps - args.size) undef, defers := [] } [.code c] := by
    simp [Frame.enter, Frame.at, hf, hb, b]
  have hsame : c' = (match c'.mode with | .panicking ({ recovered := true, .. } :: older) => (match older.dropWhile (!·.goexit) with | [] => { c' with mode := .returning } | rest => { c' with mode := .panicking rest }) | _ => c') := by
    cases rec with
    | none => simp only [amid] at hc; rw [hc]
    | some v => simp only [amid] at hc; rw [hc]
  rw [henter]
  refine runM_code c _ _ _ h b [] (c' :: cs) (by simp [b]) fun e a m q => ?_
  cases e with
  | normal =>
    obtain ⟨hd, hr⟩ := q
    exact RunM.ctl (fun w => stepG_end) (runM_back rfl hd rfl hf hr hsame h1)
  | ret =>
    obtain ⟨hd, hr⟩ := q
    exact fun todo => runM_back rfl hd rfl hf hr hsame h1
  | panic ch => exact q.elim
  | exit id => exact q.elim
  | goto l => exact q.elim
  | outgrown => exact q.elim

/-- The caller of a deferred function that has recovered. -/
def recd (c : Frame) : Option Value → Frame
  | none => c
  | some v => { c with mode := .panicking [{ v, recovered := true }] }
/-- The step of 'recover' in a deferred function. -/
theorem stepG_recover {b c' : Frame} {a : Act} {cs : List Frame} {ops : Array Oper} {rest : List Nat} {k : List Item} {o : Oper} {bi : Array TypeId} {rec : Option Value} (hk : b.kind = .deferred) (ho : ops[0]? = some o) (hw : o.guard = none)
    (hop : o.op = .call ⟨.builtin .recover, #[], bi⟩) (hc : amid c' rec) (w : World) :
    stepG P main (G (b.at a (.inRegion ops (0 :: rest) :: k)) (c' :: cs)) w =
      .go (G (b.at (a.put o.dst (rec.getD .nilIface)) (.inRegion ops rest :: k)) (recd c' rec :: cs)) w #[] := by
  have hw' : Region.wanted o (yielded ops a.tmps) = true := by simp [Region.wanted, hw]
  rw [stepG_oper ho hw']
  have hrun : (execOp a.eval o).run P w = .ok .recover w := by
    unfold execOp; simp only [hop]; simp [go_sem, resolve, invoke, builtin]
  have hev : seen P b.fn ((execOp a.eval o).events P w #[]) = #[] := by
    have : (execOp a.eval o).events P w #[] = #[] := by unfold execOp; simp only [hop]; simp [go_sem, resolve, invoke, builtin]
    rw [this, seen_none]
  cases rec with
  | none =>
    simp only [amid] at hc
    simp [stepG.apply, hrun, Frame.at, hk, tryRecover, hc, GStep.after, hev, G, Frame.finish, ho, recd]
    cases o.dst <;> exact ⟨rfl, rfl⟩
  | some v =>
    simp only [amid] at hc
    simp [stepG.apply, hrun, Frame.at, hk, tryRecover, hc, GStep.after, hev, G, Frame.finish, ho, recd]
    cases o.dst <;> exact ⟨rfl, rfl⟩
theorem rep_args {fn : Func} {args : List Value} {n : Nat} (hn : fn.ntmps = n) (hl : Nat.ble args.length n = true) :
    Rep { tmps := args.toArray ++ Array.replicate (fn.ntmps - args.toArray.size) undef, defers := [] } n (argBase args) [] [] := by
  refine ⟨?_, fun t => ?_, rfl⟩
  · have := Nat.le_of_ble_eq_true hl
    simp; omega
  · simp only [look, argBase]
    by_cases e : t < args.length
    · simp [e, Array.getElem?_append_left]
    · simp only [List.getD_eq_getElem?_getD, Array.getD_eq_getD_getElem?]
      rw [List.getElem?_eq_none (by omega), Array.getElem?_append_right (by simp; omega)]
      by_cases e2 : t - args.toArray.size < fn.ntmps - args.toArray.size
      · rw [Array.getElem?_replicate, if_pos e2]; rfl
      · rw [Array.getElem?_replicate, if_neg e2]
theorem bodyV_after {b c' c'' : Frame} {cs : List Frame} {fn : Func} {K : Mem → Prop} (hbk : b.kind = .deferred) (hf : P.funcs[b.fn]? = some fn)
    (hc : c'' = (match c'.mode with | .panicking ({ recovered := true, .. } :: older) => (match older.dropWhile (!·.goexit) with | [] => { c' with mode := .returning } | rest => { c' with mode := .panicking rest }) | _ => c'))
    (h : ∀ m', K m' → RunM P main (G c'' cs) m') : ∀ e a m, bodyV P fn K e a m → AfterS P main b [] (c' :: cs) e a m := by
  intro e a m q
  cases e with
  | normal => obtain ⟨hd, hr⟩ := q; exact RunM.ctl (fun w => stepG_end) (runM_back rfl hd hbk hf hr hc h)
  | ret => obtain ⟨hd, hr⟩ := q; exact fun todo => runM_back rfl hd hbk hf hr hc h
  | panic ch => exact q.elim
  | exit id => exact q.elim
  | goto l => exact q.elim
  | outgrown => exact q.elim
/-- A deferred function whose first operation is 'recover'. -/
theorem deferM_recover {f : FuncId} {fn : Func} {C : Code} {id : Nat} {ops : Array Oper} {o : Oper} {bi : Array TypeId} {args : List Value} {n : Nat} {m : Mem} {rec : Option Value} {K : Mem → Prop} (hf : P.funcs[f]? = some fn)
    (hb : fn.body = some (.seq (.region id ops false) C)) (h0 : ops[0]? = some o) (hop : o.op = .call ⟨.builtin .recover, #[], bi⟩) (hg : o.guard = none) (hn : fn.ntmps = n) (hl : Nat.ble args.length n = true) (hd : ops.toList.all (dstOk n) = true)
    (h : OpsE P ops (thenS (C.wps P (bodyV P fn K)) (bodyV P fn K)) (ops.toList.drop 1) n (argBase args) (outE o.dst (rec.getD .nilIface) []) [] m) : DeferM P f args.toArray m rec true K := by
  intro main c' cs hc h1
  let b : Frame := { (default : Frame) with fn := f, kind := .deferred }
  have henter : Frame.enter P f args.toArray .deferred = b.at { tmps := args.toArray ++ Array.replicate (fn.ntmps - args.toArray.size) undef, defers := [] } [.code (.seq (.region id ops false) C)] := by
    simp [Frame.enter, Frame.at, hf, hb, b]
  have hsz : 0 < ops.size := (Array.getElem?_eq_some_iff.1 h0).1
  have hrange : List.range ops.size = 0 :: List.range' 1 (ops.size - 1) := by
    rw [List.range_eq_range']
    cases hs : ops.size with
    | zero => omega
    | succ k => simp [List.range'_succ]
  have hd0 : dstOk n o = true := by
    have hmem : o ∈ ops.toList := by
      have := Array.getElem?_eq_some_iff.1 h0
      obtain ⟨hlt, e⟩ := this
      rw [← e]; simp
    exact List.all_eq_true.1 hd o hmem
  have hdr : (ops.toList.drop 1).all (dstOk n) = true := List.all_eq_true.2 fun x hx => List.all_eq_true.1 hd x (List.mem_of_mem_drop hx)
  rw [henter]
  refine RunM.ctl (fun w => stepG_seq) (RunM.ctl (fun w => stepG_region) ?_)
  rw [hrange]
  refine RunM.ctl (fun w => stepG_recover (main := main) (b := b) (rec := rec) rfl h0 hg hop hc w) ?_
  have h2 := h hdr _ ((rep_args hn hl).put (dst := o.dst) hd0 (rec.getD .nilIface))
  have h3 := opsS_drop (P := P) (ops := ops) (ops.size - 1) 1 (by omega) _ _ h2
  have hQ := bodyV_after (P := P) (main := main) (b := b) (c' := recd c' rec) (c'' := { c' with mode := .returning }) (cs := cs) (fn := fn) (K := K) rfl hf
    (by cases rec with
        | none => simp only [amid] at hc; simp only [recd, hc]; rw [← hc]
        | some v => rfl) (fun m' hk => by simpa using h1 m' hk)
  refine runM_ops (b := b) (k := [.code C]) (by simp [b]) (fun e a m q => ?_) _ _ _ h3
  cases e with
  | normal => exact runM_code C _ _ _ q b [] _ (by simp [b]) hQ
  | _ => exact AfterS.push rfl (by simp) (hQ _ _ _ q)

/-! ### A function that defers one call -/
def resS (P : Program) (fn : Func) (R : Ending → Mem → Prop) (tmps : Array Value) (m : Mem) : Prop := (results fn tmps).wpm P (fun _ _ => False) (fun v m' => ∃ m'', m''.le m' ∧ R (.returned v) m'') m
def bodyD (P : Program) (fn : Func) (R : Ending → Mem → Prop) : Exit → Act → Mem → Prop
  | .normal, a, m => (a.defers = [] ∧ resS P fn R a.tmps m) ∨ ∃ d f cap gone, a.defers = [d] ∧ d.target = .fn (.func f) cap ∧ bodied P f = true ∧ DeferM P f (d.args ++ cap) m none gone (resS P fn R a.tmps)
  | .ret, a, m => (a.defers = [] ∧ resS P fn R a.tmps m) ∨ ∃ d f cap gone, a.defers = [d] ∧ d.target = .fn (.func f) cap ∧ bodied P f = true ∧ DeferM P f (d.args ++ cap) m none gone (resS P fn R a.tmps)
  | .panic ch, a, m => (a.defers = [] ∧ ∃ m'', m''.le m ∧ R (.panicked ch) m'') ∨
      ∃ d f cap v, ch = [{ v, recovered := false }] ∧ a.defers = [d] ∧ d.target = .fn (.func f) cap ∧ bodied P f = true ∧
        (DeferM P f (d.args ++ cap) m (some v) true (resS P fn R a.tmps) ∨ DeferM P f (d.args ++ cap) m (some v) false (fun m1 => ∃ m'', m''.le m1 ∧ R (.panicked ch) m''))
  | _, _, _ => False
theorem callM_of_wpsD {f : FuncId} {fn : Func} {c : Code} {args : Array Value} {m : Mem} {R : Ending → Mem → Prop} (hf : P.funcs[f]? = some fn) (hb : fn.body = some c)
    (h : c.wps P (bodyD P fn R) { tmps := args ++ Array.replicate (fn.ntmps - args.size) undef, defers := [] } m) : CallM P f args m R := by
  intro main c' cs h1 h2
  let b : Frame := { (default : Frame) with fn := f, kind := .normal }
  have henter : Frame.enter P f args .normal = b.at { tmps := args ++ Array.replicate (fn.ntmps - args.size) undef, defers := [] } [.code c] := by
    simp [Frame.enter, Frame.at, hf, hb, b]
  have hback : ∀ (fr : Frame) (m : Mem), fr.mode = .returning → fr.defers = [] → fr.kind = .normal → fr.fn = f → resS P fn R fr.tmps m → RunM P main (G fr (c' :: cs)) m := fun fr m e1 e2 e3 e4 hr =>
    runM_return e1 e2 (.inl e3) (by rw [e4]; exact hf) hr fun v m' ⟨m'', hl, r⟩ => (h1 v m'' r).le hl
  have hret : ∀ (fr : Frame) (m : Mem), fr.mode = .returning → fr.kind = .normal → fr.fn = f →
      ((fr.defers = [] ∧ resS P fn R fr.tmps m) ∨ ∃ d f cap gone, fr.defers = [d] ∧ d.target = .fn (.func f) cap ∧ bodied P f = true ∧ DeferM P f (d.args ++ cap) m none gone (resS P fn R fr.tmps)) → RunM P main (G fr (c' :: cs)) m := by
    intro fr m e1 e3 e4 q
    rcases q with ⟨hd, hr⟩ | ⟨d, f', cap, gone, hd, ht, hbd, hD⟩
    · exact hback fr m e1 hd e3 e4 hr
    · refine RunM.ctl (fun w => stepG_deferred (by rw [e1]) hd ht hbd w) (hD main _ _ e1 fun m' hk => ?_)
      have : RunM P main (G { fr with defers := [] } (c' :: cs)) m' := hback _ m' e1 rfl e3 e4 hk
      cases gone
      · exact this
      · have e : ({ fr with defers := [] } : Frame) = { ({ fr with defers := [] } : Frame) with mode := .returning } := by rw [← e1]
        simp only [if_true]
        rw [← e]; exact this
  rw [henter]
  refine runM_code c _ _ _ h b [] (c' :: cs) (by simp [b]) fun e a m q => ?_
  cases e with
  | normal => exact RunM.ctl (fun w => stepG_end) (hret _ m rfl rfl rfl q)
  | ret => exact fun todo => hret _ m rfl rfl rfl q
  | panic ch =>
    intro todo
    rcases q with ⟨hd, m'', hl, r⟩ | ⟨d, f', cap, v, rfl, hd, ht, hbd, hD⟩
    · exact runM_raise rfl hd hf ((h2 ch m'' r).le hl)
    · rcases hD with hD | hD
      · exact RunM.ctl (fun w => stepG_deferred rfl hd ht hbd w) (hD main _ _ rfl fun m' hk => hback _ m' rfl rfl rfl rfl hk)
      · exact RunM.ctl (fun w => stepG_deferred rfl hd ht hbd w) (hD main _ _ rfl fun m' ⟨m'', hl, r⟩ => runM_raise rfl rfl hf ((h2 _ m'' r).le hl))
  | exit id => exact q.elim
  | goto l => exact q.elim
  | outgrown => exact q.elim
theorem callM_bodyD {f : FuncId} {fn : Func} {c : Code} {args : List Value} {n : Nat} {m : Mem} {R : Ending → Mem → Prop} (hf : P.funcs[f]? = some fn) (hb : fn.body = some c)
    (hn : fn.ntmps = n) (hl : Nat.ble args.length n = true) (h : CodeE P c (bodyD P fn R) n (argBase args) [] [] m) : CallM P f args.toArray m R :=
  callM_of_wpsD hf hb (h _ (rep_args hn hl))

section
variable {n : Nat} {base : Nat → Value} {rs : List (Nat × Value)} {ds : List Deferred} {m : Mem}
/-- What the results are. -/
theorem resS_of {fn : Func} {R : Ending → Mem → Prop} {tmps : Array Value} {l : List Value} {m m' : Mem} (ht : ∀ t, tmps.getD t undef = look base rs t) (hr : resVals P m (look base rs) fn.results.toList = some l) (hl : m'.le m) (h : R (.returned (oneOf l)) m') : resS P fn R tmps m := by
  unfold resS
  rw [wpm_results (l := l) (by rw [show (fun x => tmps.getD x undef) = look base rs from funext ht]; exact hr)]
  exact ⟨m', hl, h⟩
theorem DeferM.mono {f : FuncId} {args : Array Value} {m : Mem} {rec : Option Value} {gone : Bool} {K K' : Mem → Prop} (h : DeferM P f args m rec gone K) (hk : ∀ m, K m → K' m) : DeferM P f args m rec gone K' :=
  fun main c cs hc h1 => h main c cs hc fun m' k => h1 m' (hk m' k)
theorem DeferM.le {f : FuncId} {args : Array Value} {m m' : Mem} {rec : Option Value} {gone : Bool} {K : Mem → Prop} (h : DeferM P f args m rec gone K) (hl : m.le m') : DeferM P f args m' rec gone K :=
  fun main c cs hc h1 => (h main c cs hc h1).le hl
theorem bodyD_ret {fn : Func} {R : Ending → Mem → Prop} {d : Deferred} {f : FuncId} {cap : List Value} {args : List Value} {gone : Bool} {K : Mem → Prop} (ht : d = ⟨.fn (.func f) cap.toArray, args.toArray⟩) (hbd : bodied P f = true) (hD : DeferM P f (args ++ cap).toArray m none gone K)
    (hK : ∀ m1, K m1 → ∃ l m', resVals P m1 (look base rs) fn.results.toList = some l ∧ m'.le m1 ∧ R (.returned (oneOf l)) m') : WayE (bodyD P fn R) .ret n base rs [d] m := by
  intro a ha
  subst ht
  refine .inr ⟨_, f, _, gone, ha.defers, rfl, hbd, DeferM.mono (by simpa using hD) fun m1 k => ?_⟩
  obtain ⟨l, m', h1, h2, h3⟩ := hK m1 k
  exact resS_of ha.slots h1 h2 h3
theorem bodyD_end {fn : Func} {R : Ending → Mem → Prop} {d : Deferred} {f : FuncId} {cap : List Value} {args : List Value} {gone : Bool} {K : Mem → Prop} (ht : d = ⟨.fn (.func f) cap.toArray, args.toArray⟩) (hbd : bodied P f = true) (hD : DeferM P f (args ++ cap).toArray m none gone K)
    (hK : ∀ m1, K m1 → ∃ l m', resVals P m1 (look base rs) fn.results.toList = some l ∧ m'.le m1 ∧ R (.returned (oneOf l)) m') : WayE (bodyD P fn R) .normal n base rs [d] m := bodyD_ret ht hbd hD hK
theorem bodyD_panic {fn : Func} {R : Ending → Mem → Prop} {d : Deferred} {f : FuncId} {cap : List Value} {args : List Value} {v : Value} {K : Mem → Prop} (ht : d = ⟨.fn (.func f) cap.toArray, args.toArray⟩) (hbd : bodied P f = true) (hD : DeferM P f (args ++ cap).toArray m (some v) true K)
    (hK : ∀ m1, K m1 → ∃ l m', resVals P m1 (look base rs) fn.results.toList = some l ∧ m'.le m1 ∧ R (.returned (oneOf l)) m') : WayE (bodyD P fn R) (.panic [{ v, recovered := false }]) n base rs [d] m := by
  intro a ha
  subst ht
  refine .inr ⟨_, f, _, v, rfl, ha.defers, rfl, hbd, .inl (DeferM.mono (by simpa using hD) fun m1 k => ?_)⟩
  obtain ⟨l, m', h1, h2, h3⟩ := hK m1 k
  exact resS_of ha.slots h1 h2 h3
theorem bodyV_end {fn : Func} {K : Mem → Prop} {l : List Value} {m' : Mem} (hr : resVals P m (look base rs) fn.results.toList = some l) (hl : m'.le m) (h : K m') : WayE (bodyV P fn K) .normal n base rs [] m := by
  intro a ha
  refine ⟨ha.defers, ?_⟩
  rw [wpm_results (l := l) (by rw [show (fun x => a.tmps.getD x undef) = look base rs from funext ha.slots]; exact hr)]
  exact ⟨m', hl, h⟩
/-- The defer statement. -/
theorem l_defer {ops : Array Oper} {Q : Exit → Act → Mem → Prop} {rest : List Oper} {c : Call} {ty : TypeId} {pos : String} {after : Array Edge} {d : Deferred}
    (hd : resolve (ev base rs) c ty = pure d) (h : OpsE P ops Q rest n base rs (d :: ds) m) : OpsE P ops Q (⟨none, .defer c, ty, pos, after, none⟩ :: rest) n base rs ds m :=
  l_w fun _ a ha => ⟨rfl, by
    have : execOp a.eval ⟨none, .defer c, ty, pos, after, none⟩ = pure (.defer d) := by
      rw [ha.eval]; unfold execOp; simp only [hd]; rfl
    unfold Oper.wps
    rw [this]
    exact fun hr => h hr _ ⟨ha.size, ha.slots, by simp [Act.put, ha.defers]⟩⟩
end
end
end Go.Sp
