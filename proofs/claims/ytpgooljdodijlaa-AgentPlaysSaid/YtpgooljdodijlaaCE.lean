/-
  What is proved: what single operations yield, over a part of the heap, and the moves of a walk over slots that are known by a list. Conditions: those that each theorem names (the operands' values, the types' rows).
-/
import Derived.Test.YtpgooljdodijlaaCC
namespace Go.Sp
open Go.Conc

/-- The operation yields v and leaves the part of the heap as m'. -/
def Yields (P : Program) (o : Oper) (ρ : Operand → Value) (m : Mem) (v : Value) (m' : Mem) : Prop :=
  (execOp ρ o).wpm P (fun _ _ => False) (fun nx m'' => nx = Next.value v ∧ m'' = m') m
/-- The operation yields nothing and leaves the part of the heap as m'. -/
def Does (P : Program) (o : Oper) (ρ : Operand → Value) (m : Mem) (m' : Mem) : Prop :=
  (execOp ρ o).wpm P (fun _ _ => False) (fun nx m'' => nx = Next.skip ∧ m'' = m') m
/-- The operation makes one block, at whatever number that is free. -/
def Makes (P : Program) (o : Oper) (ρ : Operand → Value) (m : Mem) (v : Nat → Value) (x : Obj) : Prop :=
  (execOp ρ o).wpm P (fun _ _ => False) (fun nx m'' => ∃ b, m b = none ∧ nx = Next.value (v b) ∧ m'' = m.set b x) m
/-- The operation enters a function. -/
def Enters (P : Program) (o : Oper) (ρ : Operand → Value) (m : Mem) (f : FuncId) (args : Array Value) : Prop :=
  (execOp ρ o).wpm P (fun _ _ => False) (fun nx m'' => nx = Next.enter f args ∧ m'' = m) m

/-! ### Slots that are known by a list, over a ground -/
def look (base : Nat → Value) : List (Nat × Value) → Nat → Value
  | [], t => base t
  | (d, v) :: rs, t => cond (Nat.beq t d) v (look base rs t)
def ev (base : Nat → Value) (rs : List (Nat × Value)) : Operand → Value
  | .tmp t => look base rs t
  | .const v => v
  | .global g => .pointer (some ⟨g, 0, none⟩)
  | .func f => .func (.func f) #[] #[]
def outE (dst : Option Tmp) (v : Value) (rs : List (Nat × Value)) : List (Nat × Value) := match dst with | some d => (d, v) :: rs | none => rs
structure Rep (a : Act) (n : Nat) (base : Nat → Value) (rs : List (Nat × Value)) (ds : List Deferred) : Prop where
  size : a.tmps.size = n
  slots : ∀ t, a.tmps.getD t undef = look base rs t
  defers : a.defers = ds
section
variable {a : Act} {n : Nat} {base : Nat → Value} {rs : List (Nat × Value)} {ds : List Deferred}
theorem Rep.eval (h : Rep a n base rs ds) : a.eval = ev base rs := by
  funext x
  cases x with
  | tmp t => exact h.slots t
  | _ => rfl
theorem Rep.put (h : Rep a n base rs ds) {dst : Option Tmp} (hd : (match dst with | some d => decide (d < n) | none => true) = true) (v : Value) :
    Rep (a.put dst v) n base (outE dst v rs) ds := by
  cases dst with
  | none => exact h
  | some d =>
    have hd : d < n := by simpa using hd
    refine ⟨by simp [Act.put, h.size], fun t => ?_, h.defers⟩
    simp only [Act.put, outE, look]
    by_cases e : t = d
    · subst e
      have : Nat.beq t t = true := Nat.beq_refl t
      rw [this]
      simp [h.size, hd]
    · have hb : Nat.beq t d = false := by
        cases hb : Nat.beq t d with
        | false => rfl
        | true => exact absurd (Nat.eq_of_beq_eq_true hb) e
      rw [hb]
      have := h.slots t
      simp only [cond_false, ← this]
      simp [Array.getElem?_setIfInBounds_ne (fun z => e z.symm)]
theorem Rep.tmp (h : Rep a n base rs ds) {t : Nat} (ht : t < n) : a.tmps[t]? = some (look base rs t) := by
  have h1 := h.slots t
  have hs : t < a.tmps.size := by rw [h.size]; exact ht
  rw [← h1]
  simp [hs]
/-- What is known of the slots may be taken as the ground. -/
theorem Rep.ground (h : Rep a n base rs ds) : Rep a n (look base rs) [] ds := ⟨h.size, h.slots, h.defers⟩
/-- A slot whose value is known may be named. -/
theorem Rep.pin (h : Rep a n base rs ds) {t : Nat} {v : Value} (hv : look base rs t = v) : Rep a n base ((t, v) :: rs) ds := by
  refine ⟨h.size, fun x => ?_, h.defers⟩
  rw [h.slots x]
  simp only [look]
  cases hb : Nat.beq x t with
  | false => rfl
  | true => rw [Nat.eq_of_beq_eq_true hb]; exact hv
end

section
variable {P : Program} {ops : Array Oper} {Q : Exit → Act → Mem → Prop} {a : Act} {m : Mem} {o : Oper}
theorem Yields.wps {v : Value} {m' : Mem} {K : Act → Mem → Prop} {Qp : List PanicEntry → Act → Mem → Prop} (h : Yields P o a.eval m v m') (hk : K (a.put o.dst v) m') : o.wps P a K Qp m :=
  wpm_mono (fun _ _ z => z.elim) _ (fun nx m'' ⟨h1, h2⟩ => by subst h1; subst h2; exact hk) h
theorem Does.wps {m' : Mem} {K : Act → Mem → Prop} {Qp : List PanicEntry → Act → Mem → Prop} (h : Does P o a.eval m m') (hk : K (a.put o.dst undef) m') : o.wps P a K Qp m :=
  wpm_mono (fun _ _ z => z.elim) _ (fun nx m'' ⟨h1, h2⟩ => by subst h1; subst h2; exact hk) h
theorem Makes.wps {v : Nat → Value} {x : Obj} {K : Act → Mem → Prop} {Qp : List PanicEntry → Act → Mem → Prop} (h : Makes P o a.eval m v x) (hk : ∀ b, m b = none → K (a.put o.dst (v b)) (m.set b x)) : o.wps P a K Qp m :=
  wpm_mono (fun _ _ z => z.elim) _ (fun nx m'' ⟨b, hb, h1, h2⟩ => by subst h1; subst h2; exact hk b hb) h
theorem Enters.wps {f : FuncId} {args : Array Value} {R : Ending → Mem → Prop} {K : Act → Mem → Prop} {Qp : List PanicEntry → Act → Mem → Prop} (h : Enters P o a.eval m f args) (hc : CallM P f args m R)
    (hk : ∀ e m', R e m' → match e with | .returned v => K (a.put o.dst v) m' | .panicked ch => Qp ch a m' | .outgrown => False) : o.wps P a K Qp m :=
  wpm_mono (fun _ _ z => z.elim) _ (fun nx m'' ⟨h1, h2⟩ => by subst h1; subst h2; simp only [uponS]; exact hc.mono hk) h

/-- Operations, one behind the other. -/
def OpsL (P : Program) (ops : Array Oper) (Q : Exit → Act → Mem → Prop) : List Oper → Act → Mem → Prop
  | [], a, m => Q .normal a m
  | o :: rest, a, m => if Region.wanted o (yielded ops a.tmps) = true then o.wps P a (OpsL P ops Q rest) (fun ch => Q (.panic ch)) m else OpsL P ops Q rest (a.put o.dst undef) m
theorem opsS_drop : ∀ (n k : Nat) (_ : k + n = ops.size) (a : Act) (m : Mem), OpsL P ops Q (ops.toList.drop k) a m → OpsS P ops Q (List.range' k n) a m := by
  intro n
  induction n with
  | zero =>
    intro k hk a m h
    rw [List.drop_eq_nil_of_le (by simp; omega)] at h
    exact h
  | succ n ih =>
    intro k hk a m h
    have hlt : k < ops.toList.length := by simp; omega
    rw [List.drop_eq_getElem_cons hlt] at h
    rw [List.range'_succ, OpsS_cons]
    unfold opS
    have he : ops[k]? = some ops.toList[k] := by simp
    rw [he]
    dsimp only
    simp only [OpsL] at h
    split
    · rename_i hw; rw [if_pos hw] at h; exact wpsOp_mono (ih (k + 1) (by omega)) (fun _ _ _ q => q) h
    · rename_i hw; rw [if_neg hw] at h; exact ih (k + 1) (by omega) _ _ h
theorem wps_region {id : Nat} (h : OpsL P ops Q ops.toList a m) : (Code.region id ops false).wps P Q a m := by
  have := opsS_drop (ops := ops) ops.size 0 (by simp) a m (by simpa using h)
  rw [← List.range_eq_range'] at this
  exact this
end

/-! ### The judgements over known slots -/
/-- A piece of code, from whatever frame whose slots are known so. -/
def CodeE (P : Program) (c : Code) (Q : Exit → Act → Mem → Prop) (n : Nat) (base : Nat → Value) (rs : List (Nat × Value)) (ds : List Deferred) (m : Mem) : Prop :=
  ∀ a, Rep a n base rs ds → c.wps P Q a m
def dstOk (n : Nat) (o : Oper) : Bool := match o.dst with | some d => decide (d < n) | none => true
/-- Operations. -/
def OpsE (P : Program) (ops : Array Oper) (Q : Exit → Act → Mem → Prop) (l : List Oper) (n : Nat) (base : Nat → Value) (rs : List (Nat × Value)) (ds : List Deferred) (m : Mem) : Prop :=
  l.all (dstOk n) = true → ∀ a, Rep a n base rs ds → OpsL P ops Q l a m
/-- A way on. -/
def WayE (Q : Exit → Act → Mem → Prop) (e : Exit) (n : Nat) (base : Nat → Value) (rs : List (Nat × Value)) (ds : List Deferred) (m : Mem) : Prop :=
  ∀ a, Rep a n base rs ds → Q e a m
section
variable {P : Program} {ops : Array Oper} {Q : Exit → Act → Mem → Prop} {m : Mem} {n : Nat} {base : Nat → Value} {rs : List (Nat × Value)} {ds : List Deferred}
theorem e_seq {x y : Code} (h : CodeE P x (thenS (y.wps P Q) Q) n base rs ds m) : CodeE P (.seq x y) Q n base rs ds m := h
theorem e_then {y : Code} {Q' : Exit → Act → Mem → Prop} (h : CodeE P y Q n base rs ds m) : WayE (thenS (y.wps P Q) Q') .normal n base rs ds m := h
theorem w_then {K : Act → Mem → Prop} {e : Exit} (he : (match e with | .normal => false | _ => true) = true) (h : WayE Q e n base rs ds m) : WayE (thenS K Q) e n base rs ds m := by
  cases e <;> first | exact h | (exact absurd he (by simp))
theorem w_block {id : Nat} {e : Exit} (he : (match e with | .exit _ => false | _ => true) = true) (h : WayE Q e n base rs ds m) : WayE (blockS id Q) e n base rs ds m := by
  cases e <;> first | exact h | (exact absurd he (by simp))
theorem w_exit {id : Nat} (h : WayE Q .normal n base rs ds m) : WayE (blockS id Q) (.exit id) n base rs ds m := fun a ha => by
  simp only [blockS, if_true]; exact h a ha
theorem w_other {id id' : Nat} (hn : Nat.beq id' id = false) (h : WayE Q (.exit id') n base rs ds m) : WayE (blockS id Q) (.exit id') n base rs ds m := fun a ha => by
  have : ¬ id' = id := fun e => by rw [e, Nat.beq_refl] at hn; cases hn
  simp only [blockS, if_neg this]; exact h a ha
theorem e_block {id : Nat} {c : Code} (h : CodeE P c (blockS id Q) n base rs ds m) : CodeE P (.block id c) Q n base rs ds m := h
theorem e_exit {id : Nat} (h : WayE Q (.exit id) n base rs ds m) : CodeE P (.exit id) Q n base rs ds m := h
theorem e_ret (h : WayE Q .ret n base rs ds m) : CodeE P .ret Q n base rs ds m := h
theorem e_skip (h : WayE Q .normal n base rs ds m) : CodeE P .skip Q n base rs ds m := h
theorem e_if {c : Operand} {x y : Code} {t : Bool} (hc : ev base rs c = .bool t) (h1 : t = true → CodeE P x Q n base rs ds m) (h2 : t = false → CodeE P y Q n base rs ds m) : CodeE P (.cond c x y) Q n base rs ds m := by
  intro a ha
  simp only [Code.wps, ha.eval, hc]; exact ⟨fun t => h1 t a ha, fun t => h2 t a ha⟩
theorem e_ifT {c : Operand} {x y : Code} {t : Bool} (hc : ev base rs c = .bool t) (ht : t = true) (h1 : CodeE P x Q n base rs ds m) : CodeE P (.cond c x y) Q n base rs ds m :=
  e_if hc (fun _ => h1) fun h => by rw [ht] at h; cases h
theorem e_ifF {c : Operand} {x y : Code} {t : Bool} (hc : ev base rs c = .bool t) (ht : t = false) (h1 : CodeE P y Q n base rs ds m) : CodeE P (.cond c x y) Q n base rs ds m :=
  e_if hc (fun h => by rw [ht] at h; cases h) fun _ => h1
theorem e_reg {id : Nat} (hd : ops.toList.all (dstOk n) = true) (h : OpsE P ops Q ops.toList n base rs ds m) : CodeE P (.region id ops false) Q n base rs ds m := fun a ha => wps_region (h hd a ha)
/-- A loop: an invariant over the slots that live ('live'), the ground being whatever it is. -/
theorem e_loop {c : Code} {σ : Type} (live : σ → List (Nat × Value)) (mem : σ → Mem) (I : σ → Prop) (μ : σ → Nat) (s : σ) (h0 : I s) (hm : m = mem s)
    (hl : ∀ t v, (t, v) ∈ live s → look base rs t = v)
    (hr : ∀ s base, I s → CodeE P c (thenS (fun a' m' => ∃ s' base', I s' ∧ μ s' < μ s ∧ m' = mem s' ∧ Rep a' n base' (live s') ds) Q) n base (live s) ds (mem s)) : CodeE P (.loop c) Q n base rs ds m := by
  intro a ha
  refine ⟨fun k a m => ∃ s base, μ s = k ∧ I s ∧ m = mem s ∧ Rep a n base (live s) ds, μ s, ⟨s, look base rs, rfl, h0, hm, ?_⟩, ?_⟩
  · have key : ∀ l : List (Nat × Value), (∀ t v, (t, v) ∈ l → look base rs t = v) → Rep a n (look base rs) l ds := by
      intro l
      induction l with
      | nil => exact fun _ => ha.ground
      | cons x l ih =>
        intro h
        have h2 := ih fun t v hx => h t v (List.mem_cons_of_mem _ hx)
        refine h2.pin ?_
        have h3 : ∀ t, look (look base rs) l t = look base rs t := fun t => by rw [← h2.slots t, ha.slots t]
        rw [h3]
        exact h x.1 x.2 List.mem_cons_self
    exact key _ hl
  · rintro k a m ⟨s, base, rfl, hI, rfl, ha⟩
    refine wps_mono c ?_ (hr s base hI a ha)
    intro e a m h
    cases e <;> first | exact h | skip
    obtain ⟨s', base', h1, h2, h3, h4⟩ := h
    exact ⟨μ s', h2, s', base', rfl, h1, h3, h4⟩
/-- The end of a round. -/
theorem w_round {σ : Type} {live : σ → List (Nat × Value)} {mem : σ → Mem} {I : σ → Prop} {μ : σ → Nat} {s : σ} (s' : σ) (hI : I s') (hμ : μ s' < μ s) (hm : m = mem s') (hl : (live s').all (fun _ => true) = true → ∀ t v, (t, v) ∈ live s' → look base rs t = v) :
    WayE (thenS (fun a' m' => ∃ s' base', I s' ∧ μ s' < μ s ∧ m' = mem s' ∧ Rep a' n base' (live s') ds) Q) .normal n base rs ds m := by
  intro a ha
  refine ⟨s', look base rs, hI, hμ, hm, ?_⟩
  have hl := hl (by simp)
  have key : ∀ l : List (Nat × Value), (∀ t v, (t, v) ∈ l → look base rs t = v) → Rep a n (look base rs) l ds := by
    intro l
    induction l with
    | nil => exact fun _ => ha.ground
    | cons x l ih =>
      intro h
      have h2 := ih fun t v hx => h t v (List.mem_cons_of_mem _ hx)
      refine h2.pin ?_
      have h3 : ∀ t, look (look base rs) l t = look base rs t := fun t => by rw [← h2.slots t, ha.slots t]
      rw [h3]
      exact h x.1 x.2 List.mem_cons_self
  exact key _ hl
theorem live_nil : ∀ t v, (t, v) ∈ ([] : List (Nat × Value)) → look base rs t = v := fun _ _ h => by cases h
theorem live_cons {t : Nat} {v : Value} {l : List (Nat × Value)} (h : look base rs t = v) (hl : ∀ t v, (t, v) ∈ l → look base rs t = v) : ∀ t' v', (t', v') ∈ (t, v) :: l → look base rs t' = v' := fun t' v' hx => by
  rcases List.mem_cons.1 hx with e | hx
  · cases e; exact h
  · exact hl t' v' hx
end

/-! The moves of a walk through a region in the text's order. -/
section
variable {P : Program} {ops : Array Oper} {Q : Exit → Act → Mem → Prop} {m : Mem} {n : Nat} {base : Nat → Value} {rs : List (Nat × Value)} {ds : List Deferred}
variable {rest : List Oper} {op : Op} {dst : Option Tmp} {ty : TypeId} {pos : String} {after : Array Edge}
theorem l_end (h : WayE Q .normal n base rs ds m) : OpsE P ops Q [] n base rs ds m := fun _ a ha => h a ha
theorem l_w {o : Oper} (h : dstOk n o = true → ∀ a, Rep a n base rs ds → Region.wanted o (yielded ops a.tmps) = true ∧ o.wps P a (fun a' m' => rest.all (dstOk n) = true → OpsL P ops Q rest a' m') (fun ch => Q (.panic ch)) m) : OpsE P ops Q (o :: rest) n base rs ds m := by
  intro hd a ha
  simp only [List.all_cons, Bool.and_eq_true] at hd
  obtain ⟨h1, h2⟩ := h hd.1 a ha
  simp only [OpsL]; rw [if_pos h1]
  exact wpsOp_mono (fun a' m' k => k hd.2) (fun _ _ _ q => q) h2
theorem l_y {v : Value} {m' : Mem} (hy : Yields P ⟨dst, op, ty, pos, after, none⟩ (ev base rs) m v m') (h : OpsE P ops Q rest n base (outE dst v rs) ds m') : OpsE P ops Q (⟨dst, op, ty, pos, after, none⟩ :: rest) n base rs ds m :=
  l_w fun hd _ ha => ⟨rfl, (ha.eval ▸ hy).wps fun hr => h hr _ (ha.put hd v)⟩
theorem l_d {m' : Mem} (hy : Does P ⟨none, op, ty, pos, after, none⟩ (ev base rs) m m') (h : OpsE P ops Q rest n base rs ds m') : OpsE P ops Q (⟨none, op, ty, pos, after, none⟩ :: rest) n base rs ds m :=
  l_w fun _ _ ha => ⟨rfl, (ha.eval ▸ hy).wps fun hr => h hr _ ha⟩
theorem l_n {v : Nat → Value} {x : Obj} (hy : Makes P ⟨dst, op, ty, pos, after, none⟩ (ev base rs) m v x) (h : ∀ b, m b = none → OpsE P ops Q rest n base (outE dst (v b) rs) ds (m.set b x)) : OpsE P ops Q (⟨dst, op, ty, pos, after, none⟩ :: rest) n base rs ds m :=
  l_w fun hd _ ha => ⟨rfl, (ha.eval ▸ hy).wps fun b hb hr => h b hb hr _ (ha.put hd _)⟩
theorem l_c {f : FuncId} {args : Array Value} {R : Ending → Mem → Prop} (hy : Enters P ⟨dst, op, ty, pos, after, none⟩ (ev base rs) m f args) (hc : CallM P f args m R)
    (h : ∀ e m', R e m' → match e with | .returned v => OpsE P ops Q rest n base (outE dst v rs) ds m' | .panicked ch => WayE Q (.panic ch) n base rs ds m' | .outgrown => False) : OpsE P ops Q (⟨dst, op, ty, pos, after, none⟩ :: rest) n base rs ds m :=
  l_w fun hd a ha => ⟨rfl, (ha.eval ▸ hy).wps hc fun e m' r => by
    have := h e m' r
    cases e with
    | returned v => exact fun hr => this hr _ (ha.put hd v)
    | panicked ch => exact this a ha
    | outgrown => exact this⟩
/-- A call that returns v and leaves the part of the heap as m'. -/
def Ret (v : Value) (m' : Mem) : Ending → Mem → Prop := fun e m'' => e = .returned v ∧ m'' = m'
theorem l_cr {f : FuncId} {args : Array Value} {v : Value} {m' : Mem} (hy : Enters P ⟨dst, op, ty, pos, after, none⟩ (ev base rs) m f args) (hc : CallM P f args m (Ret v m'))
    (h : OpsE P ops Q rest n base (outE dst v rs) ds m') : OpsE P ops Q (⟨dst, op, ty, pos, after, none⟩ :: rest) n base rs ds m :=
  l_c hy hc fun e m'' ⟨h1, h2⟩ => by subst h1; subst h2; exact h
/-- A guard that says yes. -/
theorem wanted_yes {o : Oper} {j : Nat} {w b : Bool} {tmps : Array Value} {d : Nat} (hg : o.guard = some (j, w)) (hj : (ops[j]?).bind (·.dst) = some d) (hv : tmps[d]? = some (.bool b)) (hb : b = w) : Region.wanted o (yielded ops tmps) = true := by
  simp only [Region.wanted, hg, yielded, hj, Option.bind_some, hv, hb, beq_self_eq_true]
theorem wanted_no {o : Oper} {j : Nat} {w b : Bool} {tmps : Array Value} {d : Nat} (hg : o.guard = some (j, w)) (hj : (ops[j]?).bind (·.dst) = some d) (hv : tmps[d]? = some (.bool b)) (hb : b = !w) : Region.wanted o (yielded ops tmps) = false := by
  simp only [Region.wanted, hg, yielded, hj, Option.bind_some, hv, hb]
  cases w <;> rfl
theorem g_y {j d : Nat} {w b : Bool} {v : Value} {m' : Mem} (hj : (ops[j]?).bind (·.dst) = some d) (hd : Nat.blt d n = true) (hv : look base rs d = .bool b) (hb : b = w) (hy : Yields P ⟨dst, op, ty, pos, after, some (j, w)⟩ (ev base rs) m v m') (h : OpsE P ops Q rest n base (outE dst v rs) ds m') :
    OpsE P ops Q (⟨dst, op, ty, pos, after, some (j, w)⟩ :: rest) n base rs ds m :=
  l_w fun ho a ha => ⟨wanted_yes rfl hj (by rw [ha.tmp (Nat.lt_of_succ_le (Nat.le_of_ble_eq_true hd)), hv]) hb, (ha.eval ▸ hy).wps fun hr => h hr _ (ha.put ho v)⟩
theorem g_c {j d : Nat} {w b : Bool} {f : FuncId} {args : Array Value} {R : Ending → Mem → Prop} (hj : (ops[j]?).bind (·.dst) = some d) (hd : Nat.blt d n = true) (hv : look base rs d = .bool b) (hb : b = w) (hy : Enters P ⟨dst, op, ty, pos, after, some (j, w)⟩ (ev base rs) m f args) (hc : CallM P f args m R)
    (h : ∀ e m', R e m' → match e with | .returned v => OpsE P ops Q rest n base (outE dst v rs) ds m' | .panicked ch => WayE Q (.panic ch) n base rs ds m' | .outgrown => False) : OpsE P ops Q (⟨dst, op, ty, pos, after, some (j, w)⟩ :: rest) n base rs ds m :=
  l_w fun ho a ha => ⟨wanted_yes rfl hj (by rw [ha.tmp (Nat.lt_of_succ_le (Nat.le_of_ble_eq_true hd)), hv]) hb, (ha.eval ▸ hy).wps hc fun e m' r => by
    have := h e m' r
    cases e with
    | returned v => exact fun hr => this hr _ (ha.put ho v)
    | panicked ch => exact this a ha
    | outgrown => exact this⟩
theorem g_cr {j d : Nat} {w b : Bool} {f : FuncId} {args : Array Value} {v : Value} {m' : Mem} (hj : (ops[j]?).bind (·.dst) = some d) (hd : Nat.blt d n = true) (hv : look base rs d = .bool b) (hb : b = w) (hy : Enters P ⟨dst, op, ty, pos, after, some (j, w)⟩ (ev base rs) m f args) (hc : CallM P f args m (Ret v m'))
    (h : OpsE P ops Q rest n base (outE dst v rs) ds m') : OpsE P ops Q (⟨dst, op, ty, pos, after, some (j, w)⟩ :: rest) n base rs ds m :=
  g_c hj hd hv hb hy hc fun e m'' ⟨h1, h2⟩ => by subst h1; subst h2; exact h
/-- A guard that says no. -/
theorem g_x {j d : Nat} {w b : Bool} (hj : (ops[j]?).bind (·.dst) = some d) (hd : Nat.blt d n = true) (hv : look base rs d = .bool b) (hb : b = !w) (h : OpsE P ops Q rest n base (outE dst undef rs) ds m) :
    OpsE P ops Q (⟨dst, op, ty, pos, after, some (j, w)⟩ :: rest) n base rs ds m := by
  intro ho a ha
  simp only [List.all_cons, Bool.and_eq_true] at ho
  simp only [OpsL]; rw [if_neg (by rw [wanted_no rfl hj (by rw [ha.tmp (Nat.lt_of_succ_le (Nat.le_of_ble_eq_true hd)), hv]) hb]; simp)]
  exact h ho.2 _ (ha.put ho.1 undef)
end

/-! ### The model's small terms -/
section
variable {P : Program} {m : Mem} {Qp : Value → Mem → Prop}
theorem wpm_bindM {α β : Type} (e : Sem α) (f : α → Sem β) (Q : β → Mem → Prop) (m : Mem) : (e >>= f).wpm P Qp Q m = e.wpm P Qp (fun a m' => (f a).wpm P Qp Q m') m := wpm_bind e f Q m
theorem wpm_pureM {α : Type} (x : α) (Q : α → Mem → Prop) (m : Mem) : (pure x : Sem α).wpm P Qp Q m = Q x m := rfl
theorem wpm_program (Q : Program → Mem → Prop) (m : Mem) : (program).wpm P Qp Q m = Q P m := rfl
/-- Whether a type's values lie in several cells; how many cells; its zero. -/
def aggOf (P : Program) (t : TypeId) : Option Bool :=
  match P.underlying t with
  | some (.struct _) => some true
  | some (.array _ _) => some true
  | some _ => some false
  | none => none
def szOf (P : Program) (t : TypeId) : Option Nat := (P.info? t).map (·.size)
def byOf (P : Program) (t : TypeId) : Option Nat := (P.info? t).map (·.bytes)
def zeroOf (P : Program) (t : TypeId) : Option Value := (P.info? t).bind (·.zero)
theorem wpm_underlying {t : TypeId} {d : TypeDesc} (h : P.underlying t = some d) (Q : TypeDesc → Mem → Prop) (m : Mem) : (underlying t).wpm P Qp Q m = Q d m := by
  unfold underlying
  rw [wpm_bindM, wpm_program, h]; rfl
theorem wpm_typeInfo {t : TypeId} {d : TypeInfo} (h : P.info? t = some d) (Q : TypeInfo → Mem → Prop) (m : Mem) : (typeInfo t).wpm P Qp Q m = Q d m := by
  unfold typeInfo
  rw [wpm_bindM, wpm_program, h]; rfl
theorem wpm_isAgg {t : TypeId} {b : Bool} (h : aggOf P t = some b) (Q : Bool → Mem → Prop) (m : Mem) : (isAgg t).wpm P Qp Q m = Q b m := by
  unfold aggOf at h
  cases hd : P.underlying t with
  | none => rw [hd] at h; cases h
  | some d =>
    unfold isAgg
    rw [wpm_bindM, wpm_underlying hd]
    rw [hd] at h
    cases d <;> (obtain rfl := Option.some.inj h; rfl)
theorem wpm_sizeOf {t : TypeId} {n : Nat} (h : szOf P t = some n) (Q : Nat → Mem → Prop) (m : Mem) : (sizeOf t).wpm P Qp Q m = Q n m := by
  obtain ⟨i, hi, rfl⟩ := Option.map_eq_some_iff.1 h
  unfold Go.sizeOf
  rw [wpm_bindM, wpm_typeInfo hi]; rfl
theorem wpm_zeroValue {t : TypeId} {v : Value} (h : zeroOf P t = some v) (Q : Value → Mem → Prop) (m : Mem) : (zeroValue t).wpm P Qp Q m = Q v m := by
  obtain ⟨i, hi, hz⟩ := Option.bind_eq_some_iff.1 h
  unfold zeroValue
  rw [wpm_bindM, wpm_typeInfo hi, hz]; rfl
theorem wpm_loadA {ad : Addr} {v : Value} (h : m.cell ad = some v) (Q : Value → Mem → Prop) : (load ad).wpm P Qp Q m = Q v m := by
  simp only [load, Sem.wpm, h, true_and]
theorem wpm_storeA {ad : Addr} {v v0 : Value} (hv : Value.flat v = true) (h : m.cell ad = some v0) (hz : m.frz ad = false) (Q : Unit → Mem → Prop) : (store ad v).wpm P Qp Q m = Q () (m.put ad v) := by
  simp only [store, Sem.wpm, h, hv, hz, true_and, Option.isSome_some]
/-- The cells from a place on. -/
def Mem.row (m : Mem) (a : Addr) (i : Nat) : Nat → Option (List Value)
  | 0 => some []
  | n + 1 => (m.cell (a.add i)).bind fun v => (m.row a (i + 1) n).map (v :: ·)
theorem wpm_loadCells {a : Addr} : ∀ (n i : Nat) (acc : Array Value) {l : List Value} (_ : m.row a i n = some l) (Q : Array Value → Mem → Prop), (loadCellsFrom a i n acc).wpm P Qp Q m = Q (acc ++ l.toArray) m := by
  intro n
  induction n with
  | zero => intro i acc l h Q; obtain rfl := Option.some.inj h; simp [loadCellsFrom, wpm_pureM]
  | succ n ih =>
    intro i acc l h Q
    simp only [Mem.row] at h
    obtain ⟨v, hv, h⟩ := Option.bind_eq_some_iff.1 h
    obtain ⟨l', hl, rfl⟩ := Option.map_eq_some_iff.1 h
    simp only [loadCellsFrom, wpm_bindM]
    rw [wpm_loadA hv, ih _ _ hl]
    simp
/-- Cells laid from a place on. -/
def Mem.lay (m : Mem) (a : Addr) (i : Nat) : List Value → Mem
  | [] => m
  | v :: l => (m.put (a.add i) v).lay a (i + 1) l
/-- They can be laid. -/
def Mem.lays (m : Mem) (a : Addr) (i : Nat) : List Value → Bool
  | [] => true
  | v :: l => Value.flat v && (m.cell (a.add i)).isSome && !m.frz (a.add i) && (m.put (a.add i) v).lays a (i + 1) l
theorem wpm_storeCells {a : Addr} : ∀ (l : List Value) (i : Nat) {m : Mem} (_ : m.lays a i l = true) (Q : Unit → Mem → Prop), (storeCells a l i).wpm P Qp Q m = Q () (m.lay a i l) := by
  intro l
  induction l with
  | nil => intro i m _ Q; rfl
  | cons v l ih =>
    intro i m h Q
    simp only [Mem.lays, Bool.and_eq_true, Bool.not_eq_true'] at h
    obtain ⟨⟨⟨h1, h2⟩, h3⟩, h4⟩ := h
    obtain ⟨v0, h2⟩ := Option.isSome_iff_exists.1 h2
    simp only [storeCells, wpm_bindM]
    rw [wpm_storeA h1 h2 h3, ih _ h4]
    rfl
theorem wpm_loadVar1 {t : TypeId} {ad : Addr} {v : Value} (ht : aggOf P t = some false) (hc : m.cell ad = some v) (Q : Value → Mem → Prop) : (loadVar t ad).wpm P Qp Q m = Q v m := by
  unfold loadVar
  rw [wpm_bindM, wpm_isAgg ht]
  exact wpm_loadA hc Q
theorem wpm_loadVarN {t : TypeId} {ad : Addr} {n : Nat} {l : List Value} (ht : aggOf P t = some true) (hn : szOf P t = some n) (hc : m.row ad 0 n = some l) (Q : Value → Mem → Prop) : (loadVar t ad).wpm P Qp Q m = Q (.agg l.toArray) m := by
  unfold loadVar
  rw [wpm_bindM, wpm_isAgg ht]
  simp only [if_true, wpm_bindM, wpm_sizeOf hn, loadCells, wpm_loadCells n 0 #[] hc, wpm_pureM]
  simp
theorem wpm_storeVar {t : TypeId} {ad : Addr} {v : Value} {n : Nat} (hn : szOf P t = some n) (hv : v.cells.size = n) (hc : m.lays ad 0 v.cells.toList = true) (Q : Unit → Mem → Prop) : (storeVar t ad v).wpm P Qp Q m = Q () (m.lay ad 0 v.cells.toList) := by
  unfold storeVar
  simp only [wpm_bindM, wpm_sizeOf hn, hv, ne_eq, not_true_eq_false, if_false]
  exact wpm_storeCells _ 0 hc Q
theorem wpm_newObj (o : Obj) (Q : Nat → Mem → Prop) (m : Mem) : (newObj o).wpm P Qp Q m = ∀ b, m b = none → Q b (m.set b o) := rfl
theorem wpm_newVar {t : TypeId} {v : Value} (Q : Addr → Mem → Prop) (m : Mem) : (newVar t v).wpm P Qp Q m = ∀ b, m b = none → Q ⟨b, 0, none⟩ (m.set b (.cells v.cells t)) := rfl
end

/-! ### What operations yield -/
section
variable {P : Program} {ρ : Operand → Value} {m : Mem} {dst : Option Tmp} {ty : TypeId} {pos : String} {after : Array Edge} {g : Option (Nat × Bool)}
theorem y_move {x : Operand} : Yields P ⟨dst, .move x, ty, pos, after, g⟩ ρ m (ρ x) m := ⟨rfl, rfl⟩
theorem y_assign {x : Operand} : Yields P ⟨dst, .assign x, ty, pos, after, g⟩ ρ m (ρ x) m := ⟨rfl, rfl⟩
theorem y_pick {c x y : Operand} {t : Bool} (h : ρ c = .bool t) : Yields P ⟨dst, .pick c x y, ty, pos, after, g⟩ ρ m (if t then ρ x else ρ y) m := by
  simp only [Yields, execOp, h, asBool, wpm_bindM, wpm_pureM]; trivial
theorem y_load {t : TypeId} {x : Operand} {ad : Addr} {v : Value} (hx : ρ x = .pointer (some ad)) (ht : aggOf P t = some false) (hc : m.cell ad = some v) :
    Yields P ⟨dst, .load t x, ty, pos, after, g⟩ ρ m v m := by
  simp only [Yields, execOp, hx, Instr.loadAt, Instr.sureAddr, wpm_bindM, wpm_pureM, wpm_loadVar1 ht hc]
  trivial
theorem y_loadN {t : TypeId} {x : Operand} {ad : Addr} {n : Nat} {l : List Value} (hx : ρ x = .pointer (some ad)) (ht : aggOf P t = some true) (hn : szOf P t = some n) (hc : m.row ad 0 n = some l) :
    Yields P ⟨dst, .load t x, ty, pos, after, g⟩ ρ m (.agg l.toArray) m := by
  simp only [Yields, execOp, hx, Instr.loadAt, Instr.sureAddr, wpm_bindM, wpm_pureM, wpm_loadVarN ht hn hc]
  trivial
theorem d_store {t : TypeId} {x y : Operand} {ad : Addr} {v : Value} {n : Nat} (hx : ρ x = .pointer (some ad)) (hy : ρ y = v) (hn : szOf P t = some n) (hv : v.cells.size = n) (hc : m.lays ad 0 v.cells.toList = true) :
    Does P ⟨dst, .store t x y, ty, pos, after, g⟩ ρ m (m.lay ad 0 v.cells.toList) := by
  subst hy
  simp only [Does, execOp, hx, Instr.storeAt, Instr.sureAddr, wpm_bindM, wpm_pureM, wpm_storeVar hn hv hc]
  trivial
theorem y_nilCheck {x : Operand} {ad : Addr} (hx : ρ x = .pointer (some ad)) : Yields P ⟨dst, .nilCheck x, ty, pos, after, g⟩ ρ m (.pointer (some ad)) m := by
  simp only [Yields, execOp, hx, wpm_pureM]; trivial
theorem n_alloc {t : TypeId} {z : Value} (hz : zeroOf P t = some z) : Makes P ⟨dst, .alloc t, ty, pos, after, g⟩ ρ m (fun b => .pointer (some ⟨b, 0, none⟩)) (.cells z.cells t) := by
  simp only [Makes, execOp, Instr.alloc, wpm_bindM, wpm_zeroValue hz, wpm_newVar, wpm_pureM]
  exact fun b hb => ⟨b, hb, rfl, rfl⟩
theorem n_box {t : TypeId} {x : Operand} {v : Value} (hx : ρ x = v) : Makes P ⟨dst, .box t x, ty, pos, after, g⟩ ρ m (fun b => .pointer (some ⟨b, 0, none⟩)) (.cells v.cells t) := by
  subst hx
  simp only [Makes, execOp, Instr.box, wpm_bindM, wpm_newVar, wpm_pureM]
  exact fun b hb => ⟨b, hb, rfl, rfl⟩
theorem y_field {s i : Nat} {x : Operand} {ad : Addr} {fs : Array Field} {f : Field} {n : Nat} (hx : ρ x = .pointer (some ad)) (hs : P.underlying s = some (.struct fs)) (hf : fs[i]? = some f) (hn : szOf P f.type = some (n + 1)) :
    Yields P ⟨dst, .fieldAddr s x i, ty, pos, after, g⟩ ρ m (.pointer (some (ad.add f.offset))) m := by
  simp only [Yields, execOp, hx, Instr.fieldAt, wpm_bindM, wpm_underlying hs, hf, Instr.sureAddr, wpm_pureM, fieldPlace, wpm_sizeOf hn, Nat.add_eq_zero_iff, Nat.one_ne_zero, and_false, if_false]
  trivial
theorem y_extract {x : Operand} {i : Nat} {vs : Array Value} {v : Value} (hx : ρ x = .tuple vs) (hi : vs[i]? = some v) : Yields P ⟨dst, .extract x i, ty, pos, after, g⟩ ρ m v m := by
  simp only [Yields, execOp, hx, Instr.extract, hi, wpm_bindM, wpm_pureM]; trivial
theorem map_toList {α β : Type} (f : α → β) (xs : Array α) : xs.map f = (xs.toList.map f).toArray := by
  cases xs; simp
theorem y_makeFunc {fn : Fn} {first captured : Array Operand} {l k : List Value} (h1 : first.toList.map ρ = l) (h2 : captured.toList.map ρ = k) :
    Yields P ⟨dst, .makeFunc fn first captured, ty, pos, after, g⟩ ρ m (.func fn l.toArray k.toArray) m := by
  subst h1; subst h2
  simp only [Yields, execOp, Instr.makeFunc, wpm_bindM, wpm_pureM, map_toList]; trivial
theorem y_not {x : Operand} {xt : TypeId} {t : Bool} (hx : ρ x = .bool t) : Yields P ⟨dst, .unOp .not xt x, ty, pos, after, g⟩ ρ m (.bool !t) m := by
  simp only [Yields, execOp, hx, Op.unary, wpm_bindM, wpm_pureM]; trivial
theorem y_convert {s d : TypeId} {x : Operand} {j k : IntKind} {n : Int} (hx : ρ x = .int j n) {ds : TypeDesc} (hs : P.underlying s = some ds) (hd : P.underlying d = some (.int k)) :
    Yields P ⟨dst, .convert s d x, ty, pos, after, g⟩ ρ m (.int k (k.wrap n)) m := by
  simp only [Yields, execOp, hx, convert, wpm_bindM, wpm_underlying hs, wpm_underlying hd, Conv.intToInt, wpm_pureM]; trivial
/-- What an operation on two whole numbers yields. -/
def intOp (op : BinOp) (k : IntKind) (x y : Int) : Option Value :=
  match op with
  | .add => some (.int k (k.wrap (x + y)))
  | .sub => some (.int k (k.wrap (x - y)))
  | .mul => some (.int k (k.wrap (x * y)))
  | .quo => if y = 0 then none else some (.int k (k.wrap (x.tdiv y)))
  | .rem => if y = 0 then none else some (.int k (x.tmod y))
  | .and => some (.int k (k.wrap (BitVec.ofInt k.bits x &&& BitVec.ofInt k.bits y).toNat))
  | .or => some (.int k (k.wrap (BitVec.ofInt k.bits x ||| BitVec.ofInt k.bits y).toNat))
  | .xor => some (.int k (k.wrap (BitVec.ofInt k.bits x ^^^ BitVec.ofInt k.bits y).toNat))
  | .andNot => some (.int k (k.wrap (BitVec.ofInt k.bits x &&& ~~~BitVec.ofInt k.bits y).toNat))
  | .eql => some (.bool (x == y))
  | .neq => some (.bool (x != y))
  | .lss => some (.bool (x < y))
  | .leq => some (.bool (x ≤ y))
  | .gtr => some (.bool (x > y))
  | .geq => some (.bool (x ≥ y))
  | _ => none
theorem y_int {op : BinOp} {xt yt : TypeId} {x y : Operand} {k : IntKind} {p q : Int} {v : Value} (hx : ρ x = .int k p) (hy : ρ y = .int k q) (hv : intOp op k p q = some v) :
    Yields P ⟨dst, .binOp op xt x y yt, ty, pos, after, g⟩ ρ m v m := by
  simp only [Yields, execOp, hx, hy, wpm_bindM]
  cases op <;> simp only [intOp, Option.some.injEq, reduceCtorEq] at hv <;> (try subst hv) <;>
    (try (simp [eqGuard, binOp, Op.intArith, Op.intBits, Op.intCmp, wpm_pureM]; done))
  all_goals
    split at hv
    · cases hv
    · rename_i h0
      obtain rfl := Option.some.inj hv
      simp [eqGuard, binOp, Op.intDiv, h0, wpm_pureM]
theorem y_shl {xt yt : TypeId} {x y : Operand} {k j : IntKind} {p q : Int} (hx : ρ x = .int k p) (hy : ρ y = .int j q) (hq : 0 ≤ q) :
    Yields P ⟨dst, .binOp .shl xt x y yt, ty, pos, after, g⟩ ρ m (.int k (k.wrap (p * 2 ^ min q.toNat k.bits))) m := by
  have : ¬ q < 0 := by omega
  simp [Yields, execOp, hx, hy, eqGuard, binOp, Op.shift, this, wpm_pureM]
theorem y_shr {xt yt : TypeId} {x y : Operand} {k j : IntKind} {p q : Int} (hx : ρ x = .int k p) (hy : ρ y = .int j q) (hq : 0 ≤ q) :
    Yields P ⟨dst, .binOp .shr xt x y yt, ty, pos, after, g⟩ ρ m (.int k (p.fdiv (2 ^ min q.toNat k.bits))) m := by
  have : ¬ q < 0 := by omega
  simp [Yields, execOp, hx, hy, eqGuard, binOp, Op.shift, this, wpm_pureM]
/-- Functions with a Go body. -/
def bodied (P : Program) (f : FuncId) : Bool :=
  match P.funcs[f]? with
  | some fn => !(fn.name == "runtime.NumGoroutine") && fn.body.isSome
  | none => false
theorem wpm_callFunc {f : FuncId} (hf : bodied P f = true) (args : Array Value) {Qp : Value → Mem → Prop} (Q : Next → Mem → Prop) (m : Mem) : (callFunc f args).wpm P Qp Q m = Q (.enter f args) m := by
  unfold bodied at hf
  cases h : P.funcs[f]? with
  | none => rw [h] at hf; cases hf
  | some fn =>
    rw [h] at hf
    simp only [Bool.and_eq_true, Bool.not_eq_true', Option.isSome_iff_ne_none, ne_eq] at hf
    have h2 : fn.body.isNone = false := by cases hb : fn.body <;> simp_all
    simp only [callFunc, wpm_bindM, wpm_program, h, hf.1, h2, Bool.false_eq_true, if_false, wpm_pureM]
theorem e_call {f : FuncId} {args : Array Operand} {ats : Array TypeId} {l : List Value} (hf : bodied P f = true) (hρ : ρ (.func f) = .func (.func f) #[] #[]) (hl : args.toList.map ρ = l) :
    Enters P ⟨dst, .call ⟨.value (.func f), args, ats⟩, ty, pos, after, g⟩ ρ m f l.toArray := by
  subst hl
  simp only [Enters, execOp, resolve, hρ, Deferred.ofValue, wpm_bindM, wpm_pureM, invoke, wpm_callFunc hf]
  simp [map_toList]
theorem e_callv {f : FuncId} {x : Operand} {first captured l : List Value} {args : Array Operand} {ats : Array TypeId} (hx : ρ x = .func (.func f) first.toArray captured.toArray) (hf : bodied P f = true) (hl : args.toList.map ρ = l) :
    Enters P ⟨dst, .call ⟨.value x, args, ats⟩, ty, pos, after, g⟩ ρ m f (first ++ l ++ captured).toArray := by
  subst hl
  simp only [Enters, execOp, resolve, hx, Deferred.ofValue, wpm_bindM, wpm_pureM, invoke, wpm_callFunc hf]
  simp [map_toList]

/-- What the result variables hold. -/
def resVal (P : Program) (m : Mem) (look : Nat → Value) : ResultVar → Option Value
  | .tmp t => some (look t)
  | .cell x t => match look x, aggOf P t, szOf P t with
    | .pointer (some ad), some false, _ => m.cell ad
    | .pointer (some ad), some true, some n => (m.row ad 0 n).map fun l => .agg l.toArray
    | _, _, _ => none
def resVals (P : Program) (m : Mem) (look : Nat → Value) : List ResultVar → Option (List Value)
  | [] => some []
  | r :: rs => (resVal P m look r).bind fun v => (resVals P m look rs).map (v :: ·)
def oneOf : List Value → Value
  | [v] => v
  | l => .tuple l.toArray
theorem wpm_resVal {r : ResultVar} {tmps : Array Value} {v : Value} (h : resVal P m (tmps.getD · undef) r = some v) {Qp : Value → Mem → Prop} (Q : Value → Mem → Prop) :
    (match r with | .tmp t => (pure (tmps.getD t undef) : Sem Value) | .cell x t => do loadVar t (← asAddr (tmps.getD x undef))).wpm P Qp Q m = Q v m := by
  cases r with
  | tmp t => obtain rfl := Option.some.inj h; rfl
  | cell x t =>
    simp only [resVal] at h
    split at h
    · rename_i ad h1 h2
      simp only [h1, asAddr, wpm_bindM, wpm_pureM]
      exact wpm_loadVar1 h2 h Q
    · rename_i ad n h1 h2 h3
      obtain ⟨l, hl, rfl⟩ := Option.map_eq_some_iff.1 h
      simp only [h1, asAddr, wpm_bindM, wpm_pureM]
      exact wpm_loadVarN h2 h3 hl Q
    · cases h
theorem wpm_results {fn : Func} {tmps : Array Value} {l : List Value} (h : resVals P m (tmps.getD · undef) fn.results.toList = some l) {Qp : Value → Mem → Prop} (Q : Value → Mem → Prop) : (results fn tmps).wpm P Qp Q m = Q (oneOf l) m := by
  have key : ∀ (rs : List ResultVar) (l : List Value), resVals P m (tmps.getD · undef) rs = some l → ∀ (Q : List Value → Mem → Prop),
      (rs.mapM (fun (r : ResultVar) => match r with | .tmp t => (pure (tmps.getD t undef) : Sem Value) | .cell x t => do loadVar t (← asAddr (tmps.getD x undef)))).wpm P Qp Q m = Q l m := by
    intro rs
    induction rs with
    | nil => intro l h Q; obtain rfl := Option.some.inj h; simp [wpm_pureM]
    | cons r rs ih =>
      intro l h Q
      simp only [resVals] at h
      obtain ⟨v, hv, h⟩ := Option.bind_eq_some_iff.1 h
      obtain ⟨l', hl, rfl⟩ := Option.map_eq_some_iff.1 h
      rw [List.mapM_cons, wpm_bindM, wpm_resVal hv, wpm_bindM, ih _ hl]
      rfl
  unfold results
  rw [wpm_bindM, Array.mapM_eq_mapM_toList]
  show Sem.wpm P Qp ((List.toArray <$> _)) _ m = _
  rw [map_eq_pure_bind, wpm_bindM]
  have := key fn.results.toList l h (fun vs m' => Sem.wpm P Qp (pure vs.toArray) (fun vs m' => Sem.wpm P Qp (pure (if h : vs.size = 1 then vs[0] else .tuple vs)) Q m') m')
  refine this.trans ?_
  simp only [wpm_pureM]
  match l with
  | [] => rfl
  | [v] => rfl
  | v :: w :: l => rfl
theorem body_ret {n : Nat} {base : Nat → Value} {rs : List (Nat × Value)} {fn : Func} {R : Ending → Mem → Prop} {l : List Value} {m' : Mem} (hr : resVals P m (look base rs) fn.results.toList = some l) (hl : m'.le m) (h : R (.returned (oneOf l)) m') :
    WayE (bodyS P fn R) .ret n base rs [] m := by
  intro a ha
  refine ⟨ha.defers, ?_⟩
  rw [wpm_results (l := l) (by rw [show (fun x => a.tmps.getD x undef) = look base rs from funext ha.slots]; exact hr)]
  exact ⟨m', hl, h⟩
theorem body_end {n : Nat} {base : Nat → Value} {rs : List (Nat × Value)} {fn : Func} {R : Ending → Mem → Prop} {l : List Value} {m' : Mem} (hr : resVals P m (look base rs) fn.results.toList = some l) (hl : m'.le m) (h : R (.returned (oneOf l)) m') :
    WayE (bodyS P fn R) .normal n base rs [] m := body_ret hr hl h
theorem Mem.le_new {m m' : Mem} {b : Nat} {o : Obj} (h : m.le m') (hb : m b = none) : m.le (m'.set b o) := ⟨h.1, fun x p e => by
  simp only [Mem.set]; split
  · rename_i hx; rw [hx, hb] at e; cases e
  · exact h.2 x p e⟩
/-- A block that is free in a greater part is free in the smaller one, and is another. -/
theorem Mem.none_set {m : Mem} {b c : Nat} {o : Obj} (h : (m.set b o) c = none) : c ≠ b ∧ m c = none := by
  simp only [Mem.set] at h
  split at h
  · cases h
  · rename_i hx; exact ⟨hx, h⟩
end

section
variable {P : Program} {ρ : Operand → Value} {m : Mem} {dst : Option Tmp} {ty : TypeId} {pos : String} {after : Array Edge} {g : Option (Nat × Bool)}
def argBase (args : List Value) (t : Nat) : Value := args.getD t undef
theorem callM_body {f : FuncId} {fn : Func} {c : Code} {args : List Value} {n : Nat} {R : Ending → Mem → Prop} (hf : P.funcs[f]? = some fn) (hb : fn.body = some c)
    (hn : fn.ntmps = n) (hl : Nat.ble args.length n = true) (h : CodeE P c (bodyS P fn R) n (argBase args) [] [] m) : CallM P f args.toArray m R := by
  refine callM_of_wps hf hb (h _ ⟨?_, fun t => ?_, rfl⟩)
  · have := Nat.le_of_ble_eq_true hl
    simp; omega
  · simp only [look, argBase]
    by_cases e : t < args.length
    · simp [e, Array.getElem?_append_left]
    · simp only [List.getD_eq_getElem?_getD, Array.getD_eq_getD_getElem?]
      rw [List.getElem?_eq_none (by omega), Array.getElem?_append_right (by simp; omega)]
      by_cases e2 : t - args.toArray.size < fn.ntmps - args.toArray.size
      · rw [Array.getElem?_replicate, if_pos e2]; rfl
      · rw [Array.getElem?_replicate, if_neg e2]
theorem y_pickT {c x y : Operand} {t : Bool} {v : Value} (h : ρ c = .bool t) (ht : t = true) (hx : ρ x = v) : Yields P ⟨dst, .pick c x y, ty, pos, after, g⟩ ρ m v m := by
  subst hx; subst ht; exact y_pick h
theorem y_pickF {c x y : Operand} {t : Bool} {v : Value} (h : ρ c = .bool t) (ht : t = false) (hx : ρ y = v) : Yields P ⟨dst, .pick c x y, ty, pos, after, g⟩ ρ m v m := by
  subst hx; subst ht; exact y_pick h
/-- Loads and stores where the whole block is known. -/
theorem y_loadB {t : TypeId} {x : Operand} {b o : Nat} {c : Array Value} {e : TypeId} {z : Nat × Nat} {v : Value} (hx : ρ x = .pointer (some ⟨b, o, none⟩)) (ht : aggOf P t = some false) (hb : m b = some (.cells c e z)) (hv : c[o]? = some v) :
    Yields P ⟨dst, .load t x, ty, pos, after, g⟩ ρ m v m :=
  y_load hx ht (by simp only [Mem.cell, hb]; exact hv)
theorem add_off (b o i : Nat) : (⟨b, o, none⟩ : Addr).add i = ⟨b, o + i, none⟩ := by
  unfold Addr.add; split
  · rename_i h; subst h; rfl
  · rfl
theorem row_block {b : Nat} {c : Array Value} {e : TypeId} {z : Nat × Nat} (hb : m b = some (.cells c e z)) (o : Nat) : ∀ (n i : Nat), o + i + n ≤ c.size → m.row ⟨b, o, none⟩ i n = some ((c.toList.drop (o + i)).take n) := by
  intro n
  induction n with
  | zero => intro i _; simp [Mem.row]
  | succ n ih =>
    intro i h
    have hlt : o + i < c.toList.length := by simp; omega
    simp only [Mem.row, add_off, Mem.cell, hb]
    rw [ih (i + 1) (by omega)]
    rw [List.drop_eq_getElem_cons hlt]
    have : c[o + i]? = some c.toList[o + i] := by simp
    simp [this, Nat.add_assoc]
theorem y_loadNB {t : TypeId} {x : Operand} {b o n : Nat} {c : Array Value} {e : TypeId} {z : Nat × Nat} {l : List Value} (hx : ρ x = .pointer (some ⟨b, o, none⟩)) (ht : aggOf P t = some true) (hn : szOf P t = some n) (hb : m b = some (.cells c e z))
    (hl : (c.toList.drop o).take n = l) (hs : (o + n ≤ c.size)) : Yields P ⟨dst, .load t x, ty, pos, after, g⟩ ρ m (.agg l.toArray) m := by
  refine y_loadN hx ht hn ?_
  rw [row_block hb o n 0 (by simpa using hs)]
  simp [hl]
/-- Cells laid into a row of cells. -/
def splice (c : Array Value) (o : Nat) : List Value → Array Value
  | [] => c
  | v :: l => splice (c.setIfInBounds o v) (o + 1) l
theorem splice_size (c : Array Value) (o : Nat) (l : List Value) : (splice c o l).size = c.size := by
  induction l generalizing c o with
  | nil => rfl
  | cons v l ih => simp [splice, ih]
theorem lay_block {e : TypeId} {b : Nat} : ∀ (l : List Value) (o i : Nat) {m : Mem} {c : Array Value}, m b = some (.cells c e (0, 0)) → l.all Value.flat = true → o + i + l.length ≤ c.size →
    m.lays ⟨b, o, none⟩ i l = true ∧ m.lay ⟨b, o, none⟩ i l = m.set b (.cells (splice c (o + i) l) e (0, 0)) := by
  intro l
  induction l with
  | nil => intro o i m c hb _ _; exact ⟨rfl, (Mem.set_eq hb).symm⟩
  | cons v l ih =>
    intro o i m c hb hf hs
    simp only [List.all_cons, Bool.and_eq_true] at hf
    simp only [List.length_cons] at hs
    have hlt : o + i < c.size := by omega
    have hput : m.put ⟨b, o + i, none⟩ v = m.set b (.cells (c.setIfInBounds (o + i) v) e (0, 0)) := by simp [Mem.put, hb]
    obtain ⟨h1, h2⟩ := ih o (i + 1) (m := m.put ⟨b, o + i, none⟩ v) (c := c.setIfInBounds (o + i) v) (by rw [hput]; exact Mem.set_same _ _ _) hf.2 (by simp; omega)
    refine ⟨?_, ?_⟩
    · simp only [Mem.lays, add_off, h1, hf.1, Mem.cell, Mem.frz, hb, Bool.true_and, Bool.and_true]
      simp [hlt]
    · simp only [Mem.lay, add_off, h2]
      rw [hput, Mem.set_set]
      rfl
theorem d_storeB {t : TypeId} {x y : Operand} {b o n : Nat} {c c' : Array Value} {e : TypeId} {v : Value} (hx : ρ x = .pointer (some ⟨b, o, none⟩)) (hy : ρ y = v) (hn : szOf P t = some n) (hb : m b = some (.cells c e (0, 0)))
    (hv : v.cells.size = n) (hf : v.cells.toList.all Value.flat = true) (hs : o + n ≤ c.size) (hc : splice c o v.cells.toList = c') :
    Does P ⟨dst, .store t x y, ty, pos, after, g⟩ ρ m (m.set b (.cells c' e (0, 0))) := by
  obtain ⟨h1, h2⟩ := lay_block v.cells.toList o 0 hb hf (by simpa [hv] using hs)
  have := d_store (P := P) (dst := dst) (ty := ty) (pos := pos) (after := after) (g := g) hx hy hn hv h1
  rw [h2, Nat.add_zero, hc] at this
  exact this
theorem Mem.ne_none {m : Mem} {b c : Nat} {o : Obj} (h : m b = some o) (hc : m c = none) : b ≠ c := fun e => by rw [e, hc] at h; cases h
/-- Where a struct's fields lie, and how many cells each has. -/
def plOf (P : Program) (t : TypeId) : Option (List (Nat × Nat)) :=
  match P.underlying t with
  | some (.struct fs) => fs.toList.mapM (fun f => (szOf P f.type).map fun n => (f.offset, n))
  | _ => none
theorem y_build {t : TypeId} {parts : Array (Nat × Operand)} {z : Value} {ps : List (Nat × Value)} {cs : Array Value} {places : List (Nat × Nat)} (hz : zeroOf P t = some z)
    (hp : parts.toList.map (fun (i, x) => (i, ρ x)) = ps) (hpl : plOf P t = some places) (hf : Instr.fill (places.toArray[·]?) z.cells ps = some cs) :
    Yields P ⟨dst, .build t parts, ty, pos, after, g⟩ ρ m (.agg cs) m := by
  unfold plOf at hpl
  split at hpl
  case h_2 => cases hpl
  rename_i fs ht
  subst hp
  have key : ∀ (l : List Field) (places : List (Nat × Nat)), l.mapM (fun f => (szOf P f.type).map fun n => (f.offset, n)) = some places → ∀ (Q : List (Nat × Nat) → Mem → Prop) (m : Mem),
      (l.mapM (fun (f : Field) => (do pure (f.offset, ← sizeOf f.type) : Sem (Nat × Nat)))).wpm P (fun _ _ => False) Q m = Q places m := by
    intro l
    induction l with
    | nil => intro places h Q m; obtain rfl : [] = places := by simpa using h
             simp [wpm_pureM]
    | cons f l ih =>
      intro places h Q m
      rw [List.mapM_cons] at h
      simp only [Option.bind_eq_bind, Option.pure_def, Option.bind_eq_some_iff, Option.map_eq_some_iff, Option.some.injEq] at h
      obtain ⟨p, ⟨n, hn, rfl⟩, q, hq, rfl⟩ := h
      rw [List.mapM_cons]
      simp only [wpm_bindM, wpm_sizeOf hn, wpm_pureM, ih q hq]
  simp only [Yields, execOp, Instr.build, wpm_bindM, wpm_zeroValue hz, wpm_underlying ht, Array.mapM_eq_mapM_toList, map_eq_pure_bind, key _ _ hpl, wpm_pureM]
  have e : (Array.map (fun x => (x.fst, ρ x.snd)) parts).toList = parts.toList.map (fun (i, x) => (i, ρ x)) := by simp
  rw [e, hf]
  exact ⟨rfl, rfl⟩
theorem y_fieldB {s i b o k n : Nat} {x : Operand} {fs : Array Field} {f : Field} (hx : ρ x = .pointer (some ⟨b, o, none⟩)) (hs : P.underlying s = some (.struct fs)) (hf : fs[i]? = some f) (hn : szOf P f.type = some (n + 1)) (hk : o + f.offset = k) :
    Yields P ⟨dst, .fieldAddr s x i, ty, pos, after, g⟩ ρ m (.pointer (some ⟨b, k, none⟩)) m := by
  subst hk
  rw [← add_off]
  exact y_field hx hs hf hn
end
/-! ### Facts for printed proofs -/
theorem Mem.hit (m : Mem) (b : Nat) (o : Obj) : (m.set b o) b = some o := Mem.set_same m b o
theorem Mem.miss {m : Mem} {b c : Nat} {o p : Obj} (n : b ≠ c) (h : m b = some o) : (m.set c p) b = some o := by rw [Mem.set_ne m p n]; exact h
theorem resVals_cons {P : Program} {m : Mem} {look : Nat → Value} {r : ResultVar} {rs : List ResultVar} {v : Value} {l : List Value} (h : resVal P m look r = some v) (hl : resVals P m look rs = some l) : resVals P m look (r :: rs) = some (v :: l) := by
  simp [resVals, h, hl]
theorem resVals_nil {P : Program} {m : Mem} {look : Nat → Value} : resVals P m look [] = some [] := rfl
theorem resVal_tmp {P : Program} {m : Mem} {look : Nat → Value} {t : Nat} {v : Value} (h : look t = v) : resVal P m look (.tmp t) = some v := by rw [← h]; rfl
theorem resVal_cell {P : Program} {m : Mem} {look : Nat → Value} {x t b o : Nat} {c : Array Value} {e : TypeId} {z : Nat × Nat} {v : Value} (h : look x = .pointer (some ⟨b, o, none⟩)) (ht : aggOf P t = some false) (hb : m b = some (.cells c e z)) (hv : c[o]? = some v) :
    resVal P m look (.cell x t) = some v := by
  simp only [resVal, h, ht, Mem.cell, hb]; exact hv
theorem resVal_cellN {P : Program} {m : Mem} {look : Nat → Value} {x t b o n : Nat} {c : Array Value} {e : TypeId} {z : Nat × Nat} {l : List Value} (h : look x = .pointer (some ⟨b, o, none⟩)) (ht : aggOf P t = some true) (hn : szOf P t = some n) (hb : m b = some (.cells c e z)) (hl : (c.toList.drop o).take n = l) (hs : Nat.ble (o + n) c.size = true) :
    resVal P m look (.cell x t) = some (.agg l.toArray) := by
  have := row_block hb o n 0 (Nat.le_of_ble_eq_true hs)
  simp only [resVal, h, ht, hn, this, Nat.add_zero, hl, Option.map_some]
end Go.Sp
