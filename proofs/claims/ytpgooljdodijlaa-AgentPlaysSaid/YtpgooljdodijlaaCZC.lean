/-
  What is proved: from a law's own walk to the end of its run; and the law that a known agent wakes. Conditions: those that each theorem names.
-/
import Derived.Test.YtpgooljdodijlaaCZB
import Derived.Conc.Beside
namespace Go.Proofs.Ytpgooljdodijlaa
open Go Go.Sp Go.Conc Go.RowKit
attribute [local irreducible] Code.wps OpsS OpsL Oper.wps Sem.wpm CallM RunM
set_option linter.unusedSimpArgs false
set_option linter.unusedVariables false
section
variable {P : Program}
/-- How a law ends. -/
def lawQ (P : Program) (t : Nat) (L : Lw) (N : Nat) (W : World) (Post : Value → World → Prop) : Exit → Act → Mem → Prop
  | .normal, a, m => a.defers = [] ∧ a.tmps.getD t undef = .bool true ∧ m.stop = Well L P kd N W Post fun _ => none
  | .ret, a, m => a.defers = [] ∧ a.tmps.getD t undef = .bool true ∧ m.stop = Well L P kd N W Post fun _ => none
  | _, _, _ => False
theorem law_ret {t : Nat} {L : Lw} {N : Nat} {W : World} {Post : Value → World → Prop} {n : Nat} {base : Nat → Value} {rs : List (Nat × Value)} {m : Mem} (h : Sp.look base rs t = .bool true) (hs : m.stop = Well L P kd N W Post fun _ => none) : WayE (lawQ P t L N W Post) .ret n base rs [] m := fun a ha =>
  ⟨ha.defers, by rw [← h]; exact ha.slots t, hs⟩
theorem run_law {f : FuncId} {fn : Func} {c : Code} {t n : Nat} {args : List Value} {L : Lw} {N : Nat} {W : World} {Post : Value → World → Prop} {M : Part} (hf : P.funcs[f]? = some fn) (hb : fn.body = some c) (hr : fn.results = #[.tmp t]) (hi : P.inits.idxOf? f = none)
    (hP : ∀ w, Below N W w → Post (.bool true) w) (hn : fn.ntmps = n) (hl : Nat.ble args.length n = true)
    (h : CodeE P c (lawQ P t L N W Post) n (argBase args) [] [] ⟨M, Well L P kd N W Post fun _ => none⟩) :
    RunM P true (G (Frame.enter P f args.toArray .normal) []) ⟨M, Well L P kd N W Post fun _ => none⟩ := by
  have hfin : ∀ (a : Act) (todo : List Item) (m : Mem), a.defers = [] ∧ a.tmps.getD t undef = .bool true ∧ m.stop = Well L P kd N W Post (fun _ => none) → RunM P true (G { ({ (default : Frame) with fn := f, kind := .normal } : Frame).at a todo with mode := .returning } []) m := by
    rintro a todo ⟨A, st⟩ ⟨h1, h2, rfl⟩
    refine run_fin fun w _ hB => ?_
    have hrr : (results fn a.tmps).run P w = .ok (.bool true) w := by rw [← h2]; exact results_tmp hr a.tmps P w
    have hev : (results fn a.tmps).events P w #[] = #[] := events_results_tmp hr a.tmps #[]
    refine ⟨rfl, .bool true, #[], ?_, fun e he => by simp at he, hP w hB⟩
    simp [G, Frame.at, stepG, unwind, doReturn, h1, hf, hrr, hev, hi, GStep.after, seen_none]
  refine r_enter hf hb hn hl ?_
  intro a ha
  refine runM_code c _ _ _ (h a ha) _ [] [] (by simp) fun e a m q => ?_
  cases e with
  | normal => exact RunM.ctl (fun w => stepG_end) (hfin a [] m q)
  | ret => exact fun todo => hfin a todo m q
  | _ => exact q.elim
/-- From what the law asks to the run's end. -/
theorem law_ends {a : Goroutine} {L : Lw} {W : World} {Post : Value → World → Prop} (hon : KR L.ro W) (h : RunM P true a ⟨L.ro, Well L P kd W.heap.size W Post fun _ => none⟩) : EndsW P Post (solo a W) #[] := by
  rw [solo_eq_crowd]
  have hros : ROs L.ro := fun b o e => by
    obtain ⟨c, el, h1, h2⟩ := L.ro_ro b o e
    exact ⟨c, el, c.size, h1, h2, Nat.le_refl _⟩
  have C : Ring P (KR L.ro) (StR L.ro) W.heap.size (fun g => g = 0) (fun _ => none) 0 #[] #[a] W (fun _ => 0) :=
    ring_begin (fun l hl => by obtain ⟨b, i, c, e, z, rfl, _⟩ := hl; rfl) (leavers_one _ _) (past_nil.mono (Nat.zero_le _)) hon
  have hlt : ∀ b o, L.ro b = some o → b < W.heap.size := fun b o e => KR.lt hon e
  have T : Tab L P kd W.heap.size (fun _ => none) L.ro (fun _ => none) (fun _ _ => none) 1 W (fun _ => none) W.heap.size :=
    ⟨fun _ _ _ h => (by cases h), fun _ _ _ h => (by cases h), fun _ _ _ _ _ _ h => (by cases h), fun _ _ _ h => (by cases h), fun _ _ _ _ _ _ h => (by cases h), fun _ _ => .inl rfl, hros, fun b c e z hb => ⟨hlt b _ hb, fun k hk => (by cases hk)⟩, fun _ _ _ h => (by cases h), fun _ _ => rfl, Nat.le_refl _, Nat.le_refl _, fun _ _ _ h => (by cases h), fun _ _ _ h => (by cases h), fun _ _ h => h⟩
  exact main_goes C rfl rfl T (Below.refl _ _) hon (fun b o e => .inl (L.ro_ro b o e)) h
/-- Where nobody sits, whatever the law says of agents is alike. -/
theorem well_swap {L L' : Lw} {N : Nat} {W : World} {Post : Value → World → Prop} (hro : ∀ b o, L'.ro b = some o → L.ro b = some o) {X : Nat → Option Nat} {s : Nat} {main : Bool} {g : Goroutine} {w : World} (h : Well L' P kd N W Post (fun _ => none) X s main g w) : Well L P kd N W Post (fun _ => none) X s main g w := fun hm T gs sl q R Mm Inb ps h0 C hM HT hB =>
  h hm T gs sl q R Mm Inb ps h0 C hM ⟨fun _ _ _ h => (by cases h), fun _ _ _ h => (by cases h), fun _ _ _ _ _ _ h => (by cases h), fun _ _ _ h => (by cases h), fun _ _ _ _ _ _ h => (by cases h), fun i hi => (HT.only i hi).imp id fun ⟨_, _, _, h, _⟩ => (by cases h), HT.ros, HT.xr, HT.xs, HT.low, HT.sN, HT.sz, fun _ _ _ h => (by cases h), fun _ _ _ h => (by cases h), fun b o e => HT.ros' b o (hro b o e)⟩ hB
theorem callM_swap {L L' : Lw} {N : Nat} {W : World} {Post : Value → World → Prop} (hro : ∀ b o, L'.ro b = some o → L.ro b = some o) {f : FuncId} {args : Array Value} {M : Part} {R : Ending → Mem → Prop} (h : CallM P f args ⟨M, Well L' P kd N W Post fun _ => none⟩ R) : CallM P f args ⟨M, Well L P kd N W Post fun _ => none⟩ R := by
  unfold CallM at *
  exact fun main c cs h1 h2 => RunM.weak (h main c cs h1 h2) fun _ _ _ _ _ hx => well_swap hro hx
/-- What a call leaves may be said of the first law. -/
theorem callM_back {L : Lw} {N : Nat} {W : World} {Post : Value → World → Prop} {f : FuncId} {args : Array Value} {m : Mem} {Q : Ending → Part → Prop}
    (h : CallM P f args m fun e m' => ∃ L' : Lw, (∀ b o, L.ro b = some o → L'.ro b = some o) ∧ m'.stop = Well L' P kd N W Post (fun _ => none) ∧ Q e m'.at_) : CallM P f args m fun e m' => m'.stop = Well L P kd N W Post (fun _ => none) ∧ Q e m'.at_ := by
  unfold CallM at *
  refine fun main c cs h1 h2 => h main c cs (fun v m' => ?_) (fun ch m' => ?_)
  · obtain ⟨A, st⟩ := m'
    rintro ⟨L', hro, hst, hq⟩
    obtain rfl : st = _ := hst
    exact RunM.weak (h1 v ⟨A, _⟩ ⟨rfl, hq⟩) fun _ _ _ _ _ hx => well_swap hro hx
  · obtain ⟨A, st⟩ := m'
    rintro ⟨L', hro, hst, hq⟩
    obtain rfl : st = _ := hst
    exact RunM.weak (h2 ch ⟨A, _⟩ ⟨rfl, hq⟩) fun _ _ _ _ _ hx => well_swap hro hx
/-- A law without agents, over what is only read. -/
def roL (ro : Part) (h : ∀ b o, ro b = some o → RO o) : Lw where
  St := Unit
  tr := fun _ _ _ _ _ => False
  dd := fun _ _ _ => False
  inv := fun S => S = fun _ => none
  inv_bare := by rintro S rfl b o h; cases h
  ro := ro
  ro_ro := h
  ro_inv := by rintro S rfl b o h; rfl
/-- A slice written out. -/
theorem n_buildSlice {ρ : Operand → Value} {m : Mem} {dst : Option Tmp} {ty : TypeId} {pos : String} {after : Array Edge} {g : Option (Nat × Bool)} {t e : TypeId} {len sz : Nat} {z : Value} {parts : Array (Nat × Operand)} {ps : List (Nat × Value)} {cs : Array Value}
    (ht : elemOfS P t = some e) (hs : szOf P e = some sz) (hz : zeroOf P e = some z) (h0 : len * sz ≠ 0) (hle : len * sz ≤ 2 ^ 24) (hp : parts.toList.map (fun (i, x) => (i, ρ x)) = ps)
    (hf : Instr.fill (fun i => some (i * sz, sz)) ((Array.range (len * sz)).map (z.cells[· % z.cells.size]!)) ps = some cs) :
    Makes P ⟨dst, .buildSlice t len parts, ty, pos, after, g⟩ ρ m (fun b => .slice (some ⟨b, 0, none⟩) len len) (.cells cs e) := by
  subst hp
  have h1 : ¬ (len * sz > 2 ^ 24) := by omega
  have e1 : (Array.map (fun x => (x.fst, ρ x.snd)) parts).toList = parts.toList.map (fun (i, x) => (i, ρ x)) := by simp
  simp only [Makes, execOp, Instr.buildSlice, wpm_bindM, wpm_underlying (elemOfS_spec ht), wpm_sizeOf hs, h1, if_false, h0, wpm_zeroValue hz, wpm_pureM]
  rw [e1, hf]
  simp only [wpm_bindM, newRow, wpm_newObj, wpm_pureM]
  exact fun b hb => ⟨b, hb, rfl, rfl⟩
end
/-- A table of agents, with one entry anew. -/
def tabPut {α : Type} (tab : Nat → Option α) (a : Nat) (x : Option α) : Nat → Option α := fun b => if b = a then x else tab b
/-- What goroutine 0 has behind a yield. -/
structure Kept (L : Lw) (ag : Ag) (M S S' M' : Part) (d : Bool) : Prop where
  a : M' ag.a = some (agB ag d)
  sa : S' ag.a = none
  sh : ∀ b o, S' b = some o → M' b = some o
  keep : ∀ b o, M b = some o → S b = none → o.isChan = false → ¬ RO o → b ≠ ag.a → M' b = some o ∧ S' b = none
  ro : ∀ b o, L.ro b = some o → M' b = some o
theorem agB_open (ag : Ag) (d : Bool) : ¬ RO (agB ag d) := ro_less (Nat.lt_succ_self 4)
theorem kept_of {L : Lw} {ag : Ag} {M S S' : Part} {d d' : Bool} {st : Stp} (hi : L.inv S') (h_a : M ag.a = some (agB ag d)) (hSa : S ag.a = none) (hRM : ∀ b o, L.ro b = some o → M b = some o) (hd : ∀ b o, keepM M S b = some o → S' b = none) :
    Kept L ag M S S' ((Mem.mk (((keepM M S).join S').join L.ro) st).set ag.a (agB ag d')).at_ d' := by
  have hsa : S' ag.a = none := hd _ _ (keepM_of hSa h_a rfl (agB_open ag d))
  refine ⟨Mem.hit _ _ _, hsa, fun b o h => ?_, fun b o h1 h2 h3 h4 hb => ⟨?_, hd _ _ (keepM_of h2 h1 h3 h4)⟩, fun b o h => ?_⟩
  · have hb : b ≠ ag.a := fun e => by rw [e, hsa] at h; cases h
    refine Mem.miss hb ?_
    cases e : keepM M S b with
    | none => exact Part.join_l (by rw [Part.join_r e]; exact h)
    | some x => rw [hd b x e] at h; cases h
  · exact Mem.miss hb (Part.join_l (Part.join_l (keepM_of h2 h1 h3 h4)))
  · have hb : b ≠ ag.a := fun e => by subst e; have := hRM _ o h; rw [h_a] at this; obtain rfl := Option.some.inj this; exact agB_open ag d (L.ro_ro _ _ h)
    refine Mem.miss hb ?_
    show (((keepM M S).join S').join L.ro) b = some o
    rw [Part.join_r]
    · exact h
    · rw [Part.join_r]
      · exact L.ro_inv S' hi b o h
      · cases e : keepM M S b with
        | none => rfl
        | some x =>
          obtain ⟨_, i2, _, i4⟩ := keepM_some e
          rw [hRM b o h] at i2
          obtain rfl := Option.some.inj i2
          exact absurd (L.ro_ro b _ h) i4
section
variable {L : Lw} {N : Nat} {W : World} {Post : Value → World → Prop} {tab : Nat → Option (Ag × L.St)}
/-- A step. -/
theorem c_Step1 {ag : Ag} {st : L.St} {M S : Part} (hT : tab ag.a = some (ag, st)) (hS : L.inv S) (hSM : ∀ b o, S b = some o → M b = some o) (hRM : ∀ b o, L.ro b = some o → M b = some o) (h_a : M ag.a = some (agB ag false)) (hSa : S ag.a = none) :
    CallM Try.prog 13 #[.pointer (some ⟨ag.a, 0, none⟩)] ⟨M, Well L Try.prog kd N W Post tab⟩ (fun e m' => e = .returned (.int .i64 0) ∧ ∃ flag st' S' M', L.tr st S flag st' S' ∧ L.inv S' ∧ Kept L ag M S S' M' flag ∧
      m' = ⟨M', Well L Try.prog kd N W Post (tabPut tab ag.a (if flag = true then none else some (ag, st')))⟩) :=
  (c_Step hT hS hSM h_a hSa).mono fun e m' ⟨h1, flag, st', S', h2, h3, h4, h5⟩ => ⟨h1, flag, st', S', _, h2, h3, kept_of h3 h_a hSa hRM h4, h5⟩
/-- A stop. -/
theorem c_Stop1 {ag : Ag} {st : L.St} {M S : Part} (hT : tab ag.a = some (ag, st)) (hS : L.inv S) (hSM : ∀ b o, S b = some o → M b = some o) (hRM : ∀ b o, L.ro b = some o → M b = some o) (h_a : M ag.a = some (agB ag false)) (hSa : S ag.a = none) :
    CallM Try.prog 9 #[.pointer (some ⟨ag.a, 0, none⟩)] ⟨M, Well L Try.prog kd N W Post tab⟩ (fun e m' => e = .returned (.tuple #[]) ∧ ∃ S' M', L.dd st S S' ∧ L.inv S' ∧ Kept L ag M S S' M' true ∧
      m' = ⟨M', Well L Try.prog kd N W Post (tabPut tab ag.a none)⟩) :=
  (c_Stop hT hS hSM h_a hSa).mono fun e m' ⟨h1, S', h2, h3, h4, h5⟩ => ⟨h1, S', _, h2, h3, kept_of h3 h_a hSa hRM h4, h5⟩
/-- A birth. -/
structure Fresh (L : Lw) (ag : Ag) (M0 S' M' : Part) (d : Bool) : Prop where
  a : M' ag.a = some (agB ag d)
  sa : S' ag.a = none
  sh : ∀ b o, S' b = some o → M' b = some o
  keep : ∀ b o, M0 b = some o → M' b = some o ∧ S' b = none
  ro : ∀ b o, L.ro b = some o → M' b = some o
theorem c_New1 {mt : TypeId} {mv : Value} {fid : FuncId} {fs cs' : List Value} {M M0 S pc : Part} {Ob : Bool → L.St → Part → Prop} (hbd : bodied Try.prog fid = true) (hS : L.inv S) (hM : ∀ b o, (M0.join (pc.join S)) b = some o → M b = some o) (hro : ∀ b o, L.ro b = some o → M b = some o)
    (htab : ∀ a x, tab a = some x → ∃ o, M a = some o)
    (hd1 : ∀ b o, M0 b = some o → pc b = none ∧ S b = none ∧ o.isChan = false ∧ ¬ RO o) (hd2 : ∀ b o, pc b = some o → S b = none ∧ floor o = 0 ∧ o.isChan = false ∧ ¬ RO o)
    (hrun : ∀ ag : Ag, ag.mi = .iface mt mv → S ag.a = none → pc ag.a = none → L.ro ag.a = none → ∀ M', (∀ b o, pc b = some o → M' b = some o) → (∀ b o, S b = some o → M' b = some o) → (∀ b o, L.ro b = some o → M' b = some o) → M' ag.a = some (ag.ro kd) →
      CallM Try.prog fid (fs ++ [(.iface 133 (.agg #[.pointer (some ⟨ag.a, 0, none⟩)]) : Value)] ++ cs').toArray ⟨M', Zl L Try.prog kd ag Ob⟩ (RunsTo L ag (pc.put ag.a (ag.ro kd)) M' S)) :
    CallM Try.prog 11 #[.iface mt mv, .func (.func fid) fs.toArray cs'.toArray] ⟨M, Well L Try.prog kd N W Post tab⟩ (fun e m' => ∃ ag flag st' S' M', ag.mi = .iface mt mv ∧ M ag.a = none ∧ Ob flag st' S' ∧ L.inv S' ∧ Fresh L ag M0 S' M' flag ∧ e = .returned (.tuple #[.pointer (some ⟨ag.a, 0, none⟩), .int .i64 0]) ∧
      m' = ⟨M', Well L Try.prog kd N W Post (tabPut tab ag.a (if flag = true then none else some (ag, st')))⟩) := by
  have hM0 : ∀ b o, M0 b = some o → M b = some o := fun b o h => hM b o (Part.join_l h)
  refine (c_New (L := L) (M := M) (M0 := M0) (S := S) (pc := pc) (Ob := Ob) hbd hS hM hro htab hd1 hd2 (fun ag hmi hSa hpa hra M' hM' => ?_)).mono fun e m' ⟨ag, flag, st', S', h1, h2, h3, h4, h5, h6, h7⟩ => ⟨ag, flag, st', S', _, h1, h2, h3, h4, ⟨Mem.hit _ _ _, ?_, fun b o h => ?_, fun b o h => ?_, fun b o h => ?_⟩, h6, h7⟩
  · have hput : ∀ b, b ≠ ag.a → (pc.put ag.a (ag.ro kd)) b = pc b := fun b hb => by simp only [Part.put]; rw [if_neg hb]
    refine hrun ag hmi hSa hpa hra M' (fun b o h => hM' b o (Part.join_l (Part.join_l ?_))) (fun b o h => hM' b o (Part.join_l ?_)) (fun b o h => hM' b o ?_) (hM' _ _ (Part.join_l (Part.join_l (by simp [Part.put]))))
    · rw [hput b (fun e => by subst e; rw [hpa] at h; cases h)]; exact h
    · rw [Part.join_r]
      · exact h
      · rw [hput b (fun e => by subst e; rw [hSa] at h; cases h)]
        cases e : pc b with
        | none => rfl
        | some x => rw [(hd2 b x e).1] at h; cases h
    · rw [Part.join_r]
      · exact h
      · rw [Part.join_r]
        · exact L.ro_inv S hS b o h
        · rw [hput b (fun e => by subst e; rw [hra] at h; cases h)]
          cases e : pc b with
          | none => rfl
          | some x =>
            have i1 := hM b x (by
              have : M0 b = none := by cases e0 : M0 b with | none => rfl | some y => rw [(hd1 b y e0).1] at e; cases e
              rw [Part.join_r this]; exact Part.join_l e)
            rw [hro b o h] at i1
            obtain rfl := Option.some.inj i1
            exact absurd (L.ro_ro b _ h) (hd2 b _ e).2.2.2
  · exact h5 _ _ (by simp only [Part.put]; rw [if_pos trivial])
  · have hb : b ≠ ag.a := fun e => by
      have := h5 ag.a (agB ag false) (by simp only [Part.put]; rw [if_pos trivial])
      rw [e, this] at h; cases h
    refine Mem.miss hb (Part.join_l ?_)
    rw [Part.join_r]
    · exact h
    · cases e : (M0.put ag.a (agB ag false)) b with
      | none => rfl
      | some x => rw [h5 b x e] at h; cases h
  · have hb : b ≠ ag.a := fun e => by have := hM0 b o h; rw [e, h2] at this; cases this
    have e : (M0.put ag.a (agB ag false)) b = some o := by simp only [Part.put]; rw [if_neg hb]; exact h
    exact ⟨Mem.miss hb (Part.join_l (Part.join_l e)), h5 b o e⟩
  · have hb : b ≠ ag.a := fun e => by have := hro b o h; rw [e, h2] at this; cases this
    refine Mem.miss hb ?_
    show (((M0.put ag.a (agB ag false)).join S').join L.ro) b = some o
    rw [Part.join_r]
    · exact h
    · rw [Part.join_r]
      · exact L.ro_inv S' h4 b o h
      · simp only [Part.put]; rw [if_neg hb]
        cases e : M0 b with
        | none => rfl
        | some x =>
          have i1 := hM0 b x e
          rw [hro b o h] at i1
          obtain rfl := Option.some.inj i1
          exact absurd (L.ro_ro b _ h) (hd1 b _ e).2.2.2
end
theorem by31 : byOfS Try.prog 31 = some 8 := by kernel_rfl
theorem zr106 : zeroOf Try.prog 106 = some (.agg #[.slice none 0 0, .int .u64 0, .int .i64 0]) := by kernel_rfl
theorem pl106 : plOf Try.prog 106 = some [(0, 1), (1, 1), (2, 1)] := by kernel_rfl
theorem wordsV_rep (n : Nat) : wordsV (List.replicate n 0) = Array.replicate n (.int .u64 0) := by simp [wordsV]
set_option maxRecDepth 20000 in
/-- A new arena. -/
theorem c_aNew (n : Nat) (h1 : 1 ≤ n) (h2 : n ≤ 4096) (m : Mem) : CallM Try.prog 10 #[.int .i64 ((n : Nat) : Int)] m (fun e m' => ∃ bw ba, m bw = none ∧ (m.set bw (.cells (wordsV (List.replicate n 0)) 31)) ba = none ∧ e = .returned (.tuple #[.pointer (some ⟨ba, 0, none⟩), .int .i64 0]) ∧
    m' = (m.set bw (.cells (wordsV (List.replicate n 0)) 31)).set ba (arB bw (List.replicate n 0) 0 (-1))) := by
  refine callM_body (args := [.int .i64 ((n : Nat) : Int)]) Try.func10 rfl rfl rfl ?_
  repeat (refine e_seq ?_)
  refine e_reg rfl ?_
  refine l_y (v := .pointer none) y_assign ?_
  refine l_y (v := .int .i64 0) y_assign ?_
  refine l_end ?_
  refine e_then ?_
  repeat (refine e_seq ?_)
  refine e_reg rfl ?_
  have d1 : decide (((n : Nat) : Int) < 1) = false := by simp; omega
  have d2 : decide (((n : Nat) : Int) > 4096) = false := by simp; omega
  refine l_y (v := .int .i64 ((n : Nat) : Int)) y_move ?_
  refine l_y (v := .bool (decide (((n : Nat) : Int) < 1))) (y_int (p := ((n : Nat) : Int)) (q := 1) rfl rfl rfl) ?_
  refine l_y (v := .bool (decide (((n : Nat) : Int) < 1))) y_move ?_
  refine g_y (v := .int .i64 ((n : Nat) : Int)) (b := decide (((n : Nat) : Int) < 1)) rfl rfl rfl d1 y_move ?_
  refine g_y (v := .bool (decide (((n : Nat) : Int) > 4096))) (b := decide (((n : Nat) : Int) < 1)) rfl rfl rfl d1 (y_int (p := ((n : Nat) : Int)) (q := 4096) rfl rfl rfl) ?_
  refine l_y (v := .bool (decide (((n : Nat) : Int) > 4096))) (y_pickF (t := decide (((n : Nat) : Int) < 1)) rfl d1 rfl) ?_
  refine l_end ?_
  refine e_then ?_
  refine e_ifF (t := decide (((n : Nat) : Int) > 4096)) rfl d2 ?_
  refine e_skip ?_
  refine e_then ?_
  repeat (refine e_seq ?_)
  refine e_reg rfl ?_
  refine l_y (v := .int .i64 ((n : Nat) : Int)) y_move ?_
  refine l_n (n_makeSlice1 (n := n) rfl el47 sz31 by31 zr31 rfl (by omega) (by omega)) fun bw hbw => ?_
  refine l_y (v := .agg #[.slice (some ⟨bw, 0, none⟩) n n, .int .u64 0, .int .i64 (-1)]) (y_build (ps := [(0, .slice (some ⟨bw, 0, none⟩) n n), (2, .int .i64 (-1))]) (cs := #[.slice (some ⟨bw, 0, none⟩) n n, .int .u64 0, .int .i64 (-1)]) zr106 rfl pl106 rfl) ?_
  refine l_n (n_box (v := .agg #[.slice (some ⟨bw, 0, none⟩) n n, .int .u64 0, .int .i64 (-1)]) rfl) fun ba hba => ?_
  refine l_y (v := .pointer (some ⟨ba, 0, none⟩)) y_assign ?_
  refine l_y (v := .int .i64 0) y_assign ?_
  refine l_end ?_
  refine e_then ?_
  refine e_ret ?_
  refine body_ret (l := [.pointer (some ⟨ba, 0, none⟩), .int .i64 0]) (resVals_cons (resVal_tmp rfl) (resVals_cons (resVal_tmp rfl) resVals_nil)) (Mem.le_refl _) ⟨bw, ba, hbw, ?_, rfl, ?_⟩
  · rw [wordsV_rep]; exact hba
  · rw [wordsV_rep]; unfold arB; rw [List.length_replicate]; rfl
set_option maxRecDepth 20000 in
/-- A program of touches. -/
theorem c_program (v w : Value) (m : Mem) (hv : v.cells = #[v]) (hw : w.cells = #[w]) : CallM Try.prog 21 #[v, w] m (fun e m' => ∃ t1 t2, m t1 = none ∧ (m.set t1 (.cells #[v] 49)) t2 = none ∧ e = .returned (.func (.func 52) #[] #[.pointer (some ⟨t1, 0, none⟩), .pointer (some ⟨t2, 0, none⟩)]) ∧
    m' = (m.set t1 (.cells #[v] 49)).set t2 (.cells #[w] 50)) := by
  refine callM_body (args := [v, w]) Try.func21 rfl rfl rfl ?_
  repeat (refine e_seq ?_)
  refine e_reg rfl ?_
  refine l_n (n_box (v := v) rfl) fun t1 h1 => ?_
  refine l_n (n_box (v := w) rfl) fun t2 h2 => ?_
  refine l_y (v := .nilFunc) y_assign ?_
  refine l_end ?_
  refine e_then ?_
  repeat (refine e_seq ?_)
  refine e_reg rfl ?_
  refine l_y (v := .func (.func 52) #[] #[.pointer (some ⟨t1, 0, none⟩), .pointer (some ⟨t2, 0, none⟩)]) (y_makeFunc (l := []) (k := [.pointer (some ⟨t1, 0, none⟩), .pointer (some ⟨t2, 0, none⟩)]) rfl rfl) ?_
  refine l_y (v := .func (.func 52) #[] #[.pointer (some ⟨t1, 0, none⟩), .pointer (some ⟨t2, 0, none⟩)]) y_assign ?_
  refine l_end ?_
  refine e_then ?_
  refine e_ret ?_
  rw [hv] at h2 ⊢
  rw [hw]
  exact body_ret (l := [.func (.func 52) #[] #[.pointer (some ⟨t1, 0, none⟩), .pointer (some ⟨t2, 0, none⟩)]]) (resVals_cons (resVal_tmp rfl) resVals_nil) (Mem.le_refl _) ⟨t1, t2, h1, h2, rfl, rfl⟩
end Go.Proofs.Ytpgooljdodijlaa
