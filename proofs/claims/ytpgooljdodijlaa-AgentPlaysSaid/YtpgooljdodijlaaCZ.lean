/-
  What is proved: an agent's goroutine from its birth to its end. Conditions: those that each theorem names.
-/
import Derived.Test.YtpgooljdodijlaaCY
namespace Go.Proofs.Ytpgooljdodijlaa
open Go Go.Sp Go.Conc Go.RowKit
attribute [local irreducible] Code.wps OpsS OpsL Oper.wps Sem.wpm CallM RunM
set_option linter.unusedSimpArgs false
set_option linter.unusedVariables false
section
variable {P : Program}
/-- The frame below an agent's first function. -/
def bfr (P : Program) : Frame := { (default : Frame) with fn := P.funcs.size, defers := [], mode := .panicking [goexitEntry] }
theorem quits_born : QuitsD P 1 0 (G (bfr P) []) :=
  QuitsD.ctl (g' := { frame := bfr P, callers := [], status := .finished, dying := none }) rfl (fun w => by simp [G, stepG, unwind, bfr, Frame.catches, goexitEntry]; rfl) (by unfold QuitsD; exact ⟨rfl, rfl⟩)
theorem quits_back {fr c c' : Frame} {cs : List Frame} {fn : Func} {n : Nat} (hm : fr.mode = .returning) (hd : fr.defers = []) (hk : fr.kind = .deferred) (hf : P.funcs[fr.fn]? = some fn) (hr : fn.results = #[])
    (hc : c' = (match c.mode with | .panicking ({ recovered := true, .. } :: older) => (match older.dropWhile (!·.goexit) with | [] => { c with mode := .returning } | rest => { c with mode := .panicking rest }) | _ => c))
    (hq : QuitsD P n 0 (G c' cs)) : QuitsD P (n + 1) 0 (G fr (c :: cs)) := by
  refine QuitsD.ctl rfl (fun w => ?_) hq
  have hrr : (results fn fr.tmps).runT P w #[] = (.ok (.tuple #[]) w, #[]) := by simp [results, hr, go_sem]
  have hrr1 : (results fn fr.tmps).run P w = .ok (.tuple #[]) w := by rw [← Sem.runT_fst P _ w #[], hrr]
  have hrr2 : (results fn fr.tmps).events P w #[] = #[] := by show ((results fn fr.tmps).runT P w #[]).2 = _; rw [hrr]
  subst hc
  simp [G, stepG, unwind, doReturn, hm, hd, hk, hf, hrr1, hrr2, GStep.after, seen_none]
  rfl
end
theorem ag130 : aggOf Try.prog 130 = some true := by kernel_rfl
theorem sz130 : szOf Try.prog 130 = some 0 := by kernel_rfl
theorem bd75 : bodied Try.prog 75 = true := by kernel_rfl
theorem bd49 : bodied Try.prog 49 = true := by kernel_rfl
theorem if133 : plainOf Try.prog 133 = true := by kernel_rfl
theorem zr133 : zeroOf Try.prog 133 = some (.agg #[.pointer none]) := by kernel_rfl
theorem pl133 : plOf Try.prog 133 = some [(0, 1)] := by kernel_rfl
section
variable {L : Lw} {ag : Ag} {Ob : Bool → L.St → Part → Prop} {st : L.St} {M S : Part}
/-- What stands where an agent has come to its end. -/
structure Ended (L : Lw) (ag : Ag) (t : Nat) (Ob : Bool → L.St → Part → Prop) (st : L.St) (M S : Part) : Prop where
  ob : Ob true st S
  inv : L.inv S
  sh : ∀ b o, S b = some o → M b = some o
  a : M ag.a = some (ag.ro kd)
  sa : S ag.a = none
  box : M t = some (.cells #[.pointer (some ⟨ag.a, 0, none⟩)] 22)
/-- What an agent's frame looks like where its deferred function is called. -/
structure Leaves (c : Frame) (rec : Option Value) : Prop where
  mode : amid c rec
  ds : c.defers = []
  kind : c.kind = .deferred
  fn : c.fn = 49
theorem quits_end {c : Frame} {rec : Option Value} (hc : Leaves c rec) {b : Frame} {a : Act} {ops : Array Oper} (hb : b.fn = 75) (hbk : b.kind = .deferred) (ha : a.defers = []) :
    ∃ n, QuitsD Try.prog n 0 (G (b.at a (.inRegion ops [] :: [])) (recd c rec :: [bfr Try.prog])) := by
  refine ⟨5, QuitsD.ctl rfl (fun _ => stepG_region_end) (QuitsD.ctl rfl (fun _ => stepG_end) ?_)⟩
  refine quits_back (c' := { c with mode := .returning }) rfl ha hbk (by show Try.prog.funcs[b.fn]? = _; rw [hb]; exact Try.func75) rfl ?_ ?_
  · cases rec with
    | none => have := hc.mode; simp only [amid] at this; simp only [recd, this]; rw [← this]
    | some v => rfl
  refine quits_back (c' := bfr Try.prog) rfl hc.ds hc.kind (by show Try.prog.funcs[c.fn]? = _; rw [hc.fn]; exact Try.func49) rfl rfl ?_
  exact quits_born
set_option maxRecDepth 20000 in
theorem c_last {c : Frame} {rec : Option Value} (hc : Leaves c rec) (hrec : rec = none ∨ rec = some (.iface 130 (.agg #[]))) {t : Nat} (h : Ended L ag t Ob st M S) :
    RunM Try.prog false (G (Frame.enter Try.prog 75 #[.pointer (some ⟨t, 0, none⟩)] .deferred) (c :: [bfr Try.prog])) ⟨M, Zl L Try.prog kd ag Ob⟩ := by
  refine r_enter (args := [.pointer (some ⟨t, 0, none⟩)]) Try.func75 rfl rfl rfl ?_
  repeat (refine r_seq ?_)
  refine r_reg ?_
  intro a ha
  refine RunM.ctl (fun w => stepG_recover (rec := rec) rfl rfl rfl rfl hc.mode w) ?_
  refine (?_ : AtF Try.prog false { (default : Frame) with fn := 75, kind := .deferred } _ _ 19 _ _ _ _) _ (ha.put (dst := some 4) rfl (rec.getD .nilIface))
  have keep : ∀ (b : Nat) (x : Obj), (Mem.mk M (Zl L Try.prog kd ag Ob)) b = none → Ended L ag t Ob st ((Mem.mk M (Zl L Try.prog kd ag Ob)).set b x).at_ S := fun b x hb =>
    ⟨h.ob, h.inv, fun c o h1 => Mem.miss (Mem.ne_none (m := ⟨M, Zl L Try.prog kd ag Ob⟩) (h.sh c o h1) hb) (h.sh c o h1), Mem.miss (Mem.ne_none (m := ⟨M, Zl L Try.prog kd ag Ob⟩) h.a hb) h.a, h.sa, Mem.miss (Mem.ne_none (m := ⟨M, Zl L Try.prog kd ag Ob⟩) h.box hb) h.box⟩
  rcases hrec with rfl | rfl
  · refine r_y (i := 1) (v := .nilIface) rfl (by decide) rfl y_assign ?_
    refine r_end ?_
    repeat (refine r_seq ?_)
    refine r_code (by decide) ?_
    refine e_reg rfl ?_
    refine l_y (v := .nilIface) y_move ?_
    refine l_y (v := .bool false) (y_neq (r := true) rfl rfl rfl rfl) ?_
    refine l_end ?_
    refine r_way ?_
    refine r_code (by decide) ?_
    refine e_ifF (t := false) rfl rfl ?_
    refine e_skip ?_
    have h2 := h
    refine r_way ?_
    refine r_reg ?_
    refine r_y (i := 0) (v := .pointer (some ⟨ag.a, 0, none⟩)) rfl (by decide) rfl (y_loadB rfl ag22 h2.box rfl) ?_
    refine r_y (i := 1) (v := .pointer (some ⟨ag.a, 0, none⟩)) rfl (by decide) rfl (y_nilCheck rfl) ?_
    refine r_y (i := 2) (v := .pointer (some ⟨ag.a, 2, none⟩)) rfl (by decide) rfl (y_fieldB rfl Try.underlying104 rfl sz102 rfl) ?_
    refine r_y (i := 3) (v := .chan (some ag.cr)) rfl (by decide) rfl (y_loadB (c := #[ag.mi, .chan (some ag.ct), .chan (some ag.cr), .chan (some ag.cd)]) rfl ag102 h2.a rfl) ?_
    intro a2 ha2
    unfold RunM
    intro X s w hm ho hs
    refine .stop fun d => Zl.fold fun _ => ?_
    obtain ⟨z1, z2, z3, z4, z5⟩ := zf_of (P := Try.prog) h2.inv h2.sh h2.a h2.sa (w := w.at d) hm ho
    refine ⟨S, keepA ag _ S, h2.inv, z1, z2, z3, z4, z5, hs, .inl ⟨st, h2.ob, rfl, _, fun d' => send_at (b := { (default : Frame) with fn := 75, kind := .deferred }) (i := 4) (c := ag.cr) (v := .bool true) rfl (by decide) ha2 rfl rfl _, ?_⟩⟩
    rw [served_at rfl]
    exact quits_end hc rfl rfl ha2.defers

  · refine r_y (i := 1) (v := .iface 130 (.agg #[])) rfl (by decide) rfl y_assign ?_
    refine r_end ?_
    repeat (refine r_seq ?_)
    refine r_code (by decide) ?_
    refine e_reg rfl ?_
    refine l_y (v := .iface 130 (.agg #[])) y_move ?_
    refine l_y (v := .bool true) (y_neq (r := false) rfl rfl rfl rfl) ?_
    refine l_end ?_
    refine r_way ?_
    refine r_code (by decide) ?_
    refine e_ifT (t := true) rfl rfl ?_
    refine e_seq ?_
    refine e_reg rfl ?_
    refine l_y (v := .iface 130 (.agg #[])) y_move ?_
    refine l_y (v := .tuple #[.agg #[], .bool true]) (y_assertT rfl if130) ?_
    refine l_y (v := .tuple #[.agg #[], .bool true]) y_move ?_
    refine l_y (v := .agg #[]) (y_extract rfl rfl) ?_
    refine l_y (v := .bool true) (y_extract rfl rfl) ?_
    refine l_n (n_alloc zr130) fun b hb => ?_
    refine l_d (d_storeB (v := .agg #[]) rfl rfl sz130 (Mem.hit _ _ _) rfl rfl (Nat.zero_le _) rfl) ?_
    rw [Mem.set_set]
    have h2 := keep b (.cells #[] 130) hb
    refine l_y (v := .bool true) y_assign ?_
    refine l_end ?_
    refine e_then ?_
    refine e_seq ?_
    refine e_reg rfl ?_
    refine l_y (v := .bool true) y_move ?_
    refine l_y (v := .bool !true) (y_not rfl) ?_
    refine l_end ?_
    refine e_then ?_
    refine e_ifF (t := !true) rfl rfl ?_
    refine e_skip ?_
    refine r_way ?_
    refine r_reg ?_
    refine r_y (i := 0) (v := .pointer (some ⟨ag.a, 0, none⟩)) rfl (by decide) rfl (y_loadB rfl ag22 h2.box rfl) ?_
    refine r_y (i := 1) (v := .pointer (some ⟨ag.a, 0, none⟩)) rfl (by decide) rfl (y_nilCheck rfl) ?_
    refine r_y (i := 2) (v := .pointer (some ⟨ag.a, 2, none⟩)) rfl (by decide) rfl (y_fieldB rfl Try.underlying104 rfl sz102 rfl) ?_
    refine r_y (i := 3) (v := .chan (some ag.cr)) rfl (by decide) rfl (y_loadB (c := #[ag.mi, .chan (some ag.ct), .chan (some ag.cr), .chan (some ag.cd)]) rfl ag102 h2.a rfl) ?_
    intro a2 ha2
    unfold RunM
    intro X s w hm ho hs
    refine .stop fun d => Zl.fold fun _ => ?_
    obtain ⟨z1, z2, z3, z4, z5⟩ := zf_of (P := Try.prog) h2.inv h2.sh h2.a h2.sa (w := w.at d) hm ho
    refine ⟨S, keepA ag _ S, h2.inv, z1, z2, z3, z4, z5, hs, .inl ⟨st, h2.ob, rfl, _, fun d' => send_at (b := { (default : Frame) with fn := 75, kind := .deferred }) (i := 4) (c := ag.cr) (v := .bool true) rfl (by decide) ha2 rfl rfl _, ?_⟩⟩
    rw [served_at rfl]
    exact quits_end hc rfl rfl ha2.defers

/-- What is asked of the program that an agent runs. -/
def RunsTo (L : Lw) (ag : Ag) (pc M S : Part) : Ending → Mem → Prop := fun e m' =>
  ∃ Ob' st' S' M', Ob' true st' S' ∧ L.inv S' ∧ (∀ b o, S' b = some o → M' b = some o) ∧ M' ag.a = some (ag.ro kd) ∧ S' ag.a = none ∧
    (∀ b o, M b = some o → S b = none → floor o = 0 → o.isChan = false → ¬ RO o → pc b = none → M' b = some o) ∧ m' = ⟨M', Zl L Try.prog kd ag Ob'⟩ ∧
    ((∃ v, e = .returned v) ∨ e = .panicked [{ v := .iface 130 (.agg #[]), recovered := false }])
set_option maxRecDepth 20000 in
/-- An agent's goroutine, from its birth. -/
theorem c_born {fid : FuncId} {fs cs : List Value} {pc : Part} (hbd : bodied Try.prog fid = true) (hpc : ∀ b o, pc b = some o → M b = some o)
    (hrun : ∀ M', (∀ b o, M b = some o → M' b = some o) → CallM Try.prog fid (fs ++ [(.iface 133 (.agg #[.pointer (some ⟨ag.a, 0, none⟩)]) : Value)] ++ cs).toArray ⟨M', Zl L Try.prog kd ag Ob⟩ (RunsTo L ag pc M' S))
    (hSM : ∀ b o, S b = some o → M b = some o) :
    RunM Try.prog false (born Try.prog ⟨.fn (.func 49) #[], #[.pointer (some ⟨ag.a, 0, none⟩), .func (.func fid) fs.toArray cs.toArray]⟩) ⟨M, Zl L Try.prog kd ag Ob⟩ := by
  have hb0 : born Try.prog ⟨.fn (.func 49) #[], #[.pointer (some ⟨ag.a, 0, none⟩), .func (.func fid) fs.toArray cs.toArray]⟩ = G { bfr Try.prog with defers := [⟨.fn (.func 49) #[], #[.pointer (some ⟨ag.a, 0, none⟩), .func (.func fid) fs.toArray cs.toArray]⟩] } [] := rfl
  rw [hb0]
  refine RunM.ctl (fun w => stepG_deferred (d := ⟨.fn (.func 49) #[], #[.pointer (some ⟨ag.a, 0, none⟩), .func (.func fid) fs.toArray cs.toArray]⟩) (ds := []) (f := 49) (cap := #[]) rfl rfl rfl bd49 w) ?_
  refine r_enter (args := [.pointer (some ⟨ag.a, 0, none⟩), .func (.func fid) fs.toArray cs.toArray]) Try.func49 rfl rfl rfl ?_
  repeat (refine r_seq ?_)
  refine r_code (by decide) ?_
  refine e_reg rfl ?_
  refine l_n (n_box (v := .pointer (some ⟨ag.a, 0, none⟩)) rfl) fun t ht => ?_
  refine l_end ?_
  refine r_way ?_
  have h_t := Mem.hit ⟨M, Zl L Try.prog kd ag Ob⟩ t (.cells #[.pointer (some ⟨ag.a, 0, none⟩)] 22)
  have hup : ∀ b o, M b = some o → ((⟨M, Zl L Try.prog kd ag Ob⟩ : Mem).set t (.cells #[.pointer (some ⟨ag.a, 0, none⟩)] 22)) b = some o := fun b o h1 => Mem.miss (Mem.ne_none (m := ⟨M, Zl L Try.prog kd ag Ob⟩) h1 ht) h1
  have hSt : S t = none := by cases hs : S t with | none => rfl | some o => exact absurd (hSM t o hs) (by intro z; rw [show M t = none from ht] at z; cases z)
  have hpt : pc t = none := by cases hs : pc t with | none => rfl | some o => exact absurd (hpc t o hs) (by intro z; rw [show M t = none from ht] at z; cases z)
  repeat (refine r_seq ?_)
  refine r_code (by decide) ?_
  refine e_reg rfl ?_
  refine l_y (v := .func (.func 75) #[] #[.pointer (some ⟨t, 0, none⟩)]) (y_makeFunc (l := []) (k := [.pointer (some ⟨t, 0, none⟩)]) rfl rfl) ?_
  refine l_defer (d := ⟨.fn (.func 75) #[.pointer (some ⟨t, 0, none⟩)], #[]⟩) (resolve_fn (first := []) (cap := [.pointer (some ⟨t, 0, none⟩)]) (l := []) rfl rfl) ?_
  refine l_end ?_
  refine r_way ?_
  refine r_reg ?_
  refine r_y (i := 0) (v := .func (.func fid) fs.toArray cs.toArray) rfl (by decide) rfl y_move ?_
  refine r_y (i := 1) (v := .pointer (some ⟨ag.a, 0, none⟩)) rfl (by decide) rfl (y_loadB rfl ag22 h_t rfl) ?_
  refine r_y (i := 2) (v := .agg #[.pointer (some ⟨ag.a, 0, none⟩)]) rfl (by decide) rfl (y_build (ps := [(0, .pointer (some ⟨ag.a, 0, none⟩))]) (cs := #[.pointer (some ⟨ag.a, 0, none⟩)]) zr133 rfl pl133 rfl) ?_
  refine r_y (i := 3) (v := .iface 133 (.agg #[.pointer (some ⟨ag.a, 0, none⟩)])) rfl (by decide) rfl (y_iface rfl if133) ?_
  have hend : ∀ (M' : Part) (Ob' : Bool → L.St → Part → Prop) (st' : L.St) (S' : Part), Ended L ag t Ob' st' M' S' → ∀ (rec : Option Value) (c : Frame), (rec = none ∨ rec = some (.iface 130 (.agg #[]))) → Leaves { c with defers := [] } rec → c.defers = [⟨.fn (.func 75) #[.pointer (some ⟨t, 0, none⟩)], #[]⟩] →
      RunM Try.prog false (G c [bfr Try.prog]) ⟨M', Zl L Try.prog kd ag Ob'⟩ := fun M' Ob' st' S' he rec c hrec hc hd => by
    refine RunM.ctl (fun w => stepG_deferred (d := ⟨.fn (.func 75) #[.pointer (some ⟨t, 0, none⟩)], #[]⟩) (ds := []) (f := 75) (cap := #[.pointer (some ⟨t, 0, none⟩)]) ?_ hd rfl bd75 w) (c_last hc hrec he)
    rcases hrec with rfl | rfl
    · have := hc.mode; simp only [amid] at this; rw [this]
    · have := hc.mode; simp only [amid] at this; rw [this]
  have hout : ∀ {e : Ending} {m' : Mem}, RunsTo L ag pc (((⟨M, Zl L Try.prog kd ag Ob⟩ : Mem).set t (.cells #[.pointer (some ⟨ag.a, 0, none⟩)] 22)).at_) S e m' → ∃ Ob' st' S' M', Ended L ag t Ob' st' M' S' ∧ m' = ⟨M', Zl L Try.prog kd ag Ob'⟩ ∧ ((∃ v, e = .returned v) ∨ e = .panicked [{ v := .iface 130 (.agg #[]), recovered := false }]) := fun ⟨Ob', st', S', M', i1, i2, i3, i4, i5, i6, i7, i8⟩ =>
    ⟨Ob', st', S', M', ⟨i1, i2, i3, i4, i5, i6 t _ h_t hSt rfl rfl (ro_open _ _) hpt⟩, i7, i8⟩
  refine r_c (i := 4) rfl (by decide) rfl (e_callv (l := [.iface 133 (.agg #[.pointer (some ⟨ag.a, 0, none⟩)])]) rfl hbd rfl) (hrun _ hup) (fun m' r => ?_) (fun v m' r => ?_) (fun ch m' r a ha todo => ?_)
  · obtain ⟨_, _, _, _, _, _, i8⟩ := hout r
    rcases i8 with ⟨v, h⟩ | h <;> cases h
  · obtain ⟨Ob', st', S', M', he, rfl, _⟩ := hout r
    refine r_end ?_
    intro a ha
    refine RunM.ctl (fun w => stepG_end) ?_
    exact hend M' Ob' st' S' he none _ (.inl rfl) ⟨rfl, rfl, rfl, rfl⟩ ha.defers
  · obtain ⟨Ob', st', S', M', he, rfl, h8⟩ := hout r
    obtain rfl : ch = [{ v := .iface 130 (.agg #[]), recovered := false }] := by
      rcases h8 with ⟨v, h⟩ | h
      · cases h
      · cases h; rfl
    exact hend M' Ob' st' S' he (some _) _ (.inr rfl) ⟨rfl, rfl, rfl, rfl⟩ ha.defers
end
end Go.Proofs.Ytpgooljdodijlaa
