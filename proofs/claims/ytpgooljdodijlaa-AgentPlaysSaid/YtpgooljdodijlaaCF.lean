/-
  What is proved: what further operations yield (interface values, slices, panics, methods behind an interface), over a part of the heap. Conditions: those that each theorem names.
-/
import Derived.Test.YtpgooljdodijlaaCD
namespace Go.Sp
open Go.Conc

section
variable {P : Program} {ρ : Operand → Value} {m : Mem} {dst : Option Tmp} {ty : TypeId} {pos : String} {after : Array Edge} {g : Option (Nat × Bool)}
/-- Is the type no interface? -/
def plainOf (P : Program) (t : TypeId) : Bool :=
  match P.underlying t with
  | some (.interface _) => false
  | some _ => true
  | none => false
theorem y_iface {t : TypeId} {x : Operand} {v : Value} (hx : ρ x = v) (ht : plainOf P t = true) : Yields P ⟨dst, .makeInterface t x, ty, pos, after, g⟩ ρ m (.iface t v) m := by
  subst hx
  unfold plainOf at ht
  cases hd : P.underlying t with
  | none => rw [hd] at ht; cases ht
  | some d =>
    rw [hd] at ht
    simp only [Yields, execOp, Instr.makeInterface, wpm_bindM, wpm_underlying hd]
    cases d <;> first | exact ⟨rfl, rfl⟩ | exact absurd ht (by simp)
/-- A slice type's elements. -/
def elemOfS (P : Program) (t : TypeId) : Option TypeId :=
  match P.underlying t with
  | some (.slice e) => some e
  | _ => none
theorem elemOfS_spec {t e : TypeId} (h : elemOfS P t = some e) : P.underlying t = some (.slice e) := by
  unfold elemOfS at h
  split at h
  · rename_i h'; rw [h']; rw [Option.some.inj h]
  · cases h
theorem y_len {t e : TypeId} {x : Operand} {ats : Array TypeId} {b : Option Addr} {n c : Nat} (hx : ρ x = .slice b n c) (ha : ats[0]? = some t) (ht : elemOfS P t = some e) :
    Yields P ⟨dst, .call ⟨.builtin .len, #[x], ats⟩, ty, pos, after, g⟩ ρ m (.int .i64 n) m := by
  have h0 : (#[x].map ρ)[0]? = some (.slice b n c) := by simp [hx]
  simp only [Yields, execOp, resolve, wpm_bindM, wpm_pureM, invoke, builtin, Builtin.len_, ha, h0, wpm_underlying (elemOfS_spec ht)]
  exact ⟨rfl, trivial⟩
theorem wpm_asIntOf {k : IntKind} {i : Int} {Qp : Value → Mem → Prop} (Q : IntKind × Int → Mem → Prop) : (asIntOf (.int k i)).wpm P Qp Q m = Q (k, i) m := rfl
theorem y_index {t e : TypeId} {x i : Operand} {a : Addr} {k : IntKind} {j : Int} {n c sz : Nat} (hx : ρ x = .slice (some a) n c) (hi : ρ i = .int k j) (ht : elemOfS P t = some e) (hs : szOf P e = some sz) (h0 : 0 ≤ j) (h1 : j < n) :
    Yields P ⟨dst, .indexAddr t x i, ty, pos, after, g⟩ ρ m (.pointer (some (a.add (j.toNat * sz)))) m := by
  have hh : 0 ≤ j ∧ j < (n : Int) := ⟨h0, h1⟩
  simp only [Yields, execOp, Instr.indexAt, hx, hi, wpm_bindM, wpm_asIntOf, wpm_underlying (elemOfS_spec ht), wpm_pureM, hh, and_self, if_true, wpm_sizeOf hs]
theorem y_indexB {t e : TypeId} {x i : Operand} {b o p : Nat} {k : IntKind} {j : Int} {n c sz : Nat} (hx : ρ x = .slice (some ⟨b, o, none⟩) n c) (hi : ρ i = .int k j) (ht : elemOfS P t = some e) (hs : szOf P e = some sz) (h0 : 0 ≤ j) (h1 : j < n) (hp : o + j.toNat * sz = p) :
    Yields P ⟨dst, .indexAddr t x i, ty, pos, after, g⟩ ρ m (.pointer (some ⟨b, p, none⟩)) m := by
  subst hp
  rw [← add_off]
  exact y_index hx hi ht hs h0 h1
/-- A panic with a value behind an interface. -/
theorem l_panic {ops : Array Oper} {Q : Exit → Act → Mem → Prop} {n : Nat} {base : Nat → Value} {rs : List (Nat × Value)} {ds : List Deferred} {rest : List Oper} {x : Operand} {t : TypeId} {v : Value} (hx : ev base rs x = .iface t v)
    (h : WayE Q (.panic [{ v := .iface t v, recovered := false }]) n base rs ds m) : OpsE P ops Q (⟨dst, .panic x, ty, pos, after, none⟩ :: rest) n base rs ds m :=
  l_w fun _ a ha => ⟨rfl, by
    unfold Oper.wps
    simp only [ha.eval, execOp, hx, Instr.panic, goPanic, Bind.bind, Sem.bind, Sem.wpm]
    exact h a ha⟩
theorem y_assertT {x : Operand} {xt t : TypeId} {v : Value} (hx : ρ x = .iface t v) (ht : plainOf P t = true) : Yields P ⟨dst, .typeAssert x xt t true, ty, pos, after, g⟩ ρ m (.tuple #[v, .bool true]) m := by
  unfold plainOf at ht
  cases hd : P.underlying t with
  | none => rw [hd] at ht; cases ht
  | some d =>
    rw [hd] at ht
    simp only [Yields, execOp, Instr.typeAssert, hx, wpm_bindM, wpm_underlying hd]
    cases d <;> first | (simp only [if_true, wpm_pureM]; exact ⟨rfl, rfl⟩) | (simp only [if_true, wpm_pureM]; trivial) | exact absurd ht (by simp)
theorem y_assertF {x : Operand} {xt t t' : TypeId} {v z : Value} (hx : ρ x = .iface t' v) (hne : Nat.beq t' t = false) (ht : plainOf P t = true) (hz : zeroOf P t = some z) : Yields P ⟨dst, .typeAssert x xt t true, ty, pos, after, g⟩ ρ m (.tuple #[z, .bool false]) m := by
  have hn : ¬ t' = t := fun e => by subst e; rw [Nat.beq_refl] at hne; cases hne
  unfold plainOf at ht
  cases hd : P.underlying t with
  | none => rw [hd] at ht; cases ht
  | some d =>
    rw [hd] at ht
    simp only [Yields, execOp, Instr.typeAssert, hx, wpm_bindM, wpm_underlying hd]
    cases d <;> first | (simp only [hn, if_false, if_true, wpm_bindM, wpm_zeroValue hz, wpm_pureM]; exact ⟨rfl, rfl⟩) | (simp only [hn, if_false, if_true, wpm_bindM, wpm_zeroValue hz, wpm_pureM]; trivial) | exact absurd ht (by simp)
/-- The function behind a method name of a type, whose receiver is the value itself. -/
def methOf (P : Program) (t : TypeId) (name : String) : Option FuncId :=
  match P.info? t with
  | some i => match i.methods.find? (·.name == name) with
    | some mm => if mm.path.toList.isEmpty then match mm.func, P.underlying t with
        | some (f, true), some (.pointer _) => some f
        | some (_, false), some (.pointer _) => none
        | some (f, false), some _ => some f
        | _, _ => none
      else none
    | none => none
  | none => none
theorem wpm_method {t : TypeId} {v : Value} {name : String} {f : FuncId} (h : methOf P t name = some f) {Qp : Value → Mem → Prop} (Q : FuncId × Value → Mem → Prop) (k : Nat) : (method (k + 1) t v name).wpm P Qp Q m = Q (f, v) m := by
  unfold methOf at h
  cases hi : P.info? t with
  | none => rw [hi] at h; cases h
  | some i =>
    rw [hi] at h
    dsimp only at h
    cases hm : i.methods.find? (·.name == name) with
    | none => rw [hm] at h; cases h
    | some mm =>
      rw [hm] at h
      dsimp only at h
      split at h
      case isFalse => cases h
      rename_i hp
      have hp : mm.path.toList = [] := by simpa using hp
      have hpe : mm.path.isEmpty = true := by simpa using hp
      simp only [method, wpm_bindM, wpm_typeInfo hi, hm, hp, follow, wpm_pureM]
      cases hf : mm.func with
      | none => rw [hf] at h; cases h
      | some fp =>
        obtain ⟨f', pr⟩ := fp
        rw [hf] at h
        cases hu : P.underlying t with
        | none => rw [hu] at h; cases pr <;> cases h
        | some d =>
          rw [hu] at h
          cases pr <;> cases d <;> first | (cases h; done) | (obtain rfl := Option.some.inj h; simp only [wpm_bindM, receiverAt, wpm_underlying hu, Place.get, wpm_pureM])
theorem e_invoke {x : Operand} {name : String} {t : TypeId} {f : FuncId} {v : Value} {args : Array Operand} {ats : Array TypeId} {l : List Value} (hx : ρ x = .iface t v) (hm : methOf P t name = some f) (hf : bodied P f = true) (hl : args.toList.map ρ = l) :
    Enters P ⟨dst, .call ⟨.invoke x name, args, ats⟩, ty, pos, after, g⟩ ρ m f (v :: l).toArray := by
  subst hl
  have hk : ∃ k, P.types.size + Made.depth = k + 1 := ⟨P.types.size + Made.depth - 1, by simp [Made.depth]⟩
  obtain ⟨k, hk⟩ := hk
  simp only [Enters, execOp, resolve, hx, wpm_bindM, wpm_pureM, invoke, callMethod]
  simp [wpm_bindM, wpm_program, hk, wpm_method hm, wpm_callFunc hf, map_toList]
  rw [List.take_of_length_le (by simp)]
/-- A row of new cells. -/
theorem wpm_askRoom {n : Nat} {Qp : Value → Mem → Prop} {Q : Unit → Mem → Prop} {m : Mem} (h : Q () m) : (askRoom n).wpm P Qp Q m := by
  unfold askRoom
  split
  · exact ⟨rfl, h⟩
  · exact h
def byOfS (P : Program) (t : TypeId) : Option Nat := (P.info? t).map (·.bytes)
theorem n_makeSlice {t e : TypeId} {x : Operand} {n sz by_ : Nat} {z : Value} (hx : ρ x = .int .i64 n) (ht : elemOfS P t = some e) (hs : szOf P e = some sz) (hb : byOfS P e = some by_) (hz : zeroOf P e = some z) (hle : by_ * n ≤ 2 ^ 48) (hn : n < 2 ^ 63) :
    Makes P ⟨dst, .makeSlice t x x, ty, pos, after, g⟩ ρ m (fun b => .slice (some ⟨b, 0, none⟩) n n) (.cells ((Array.range (n * sz)).map ((if n * sz = 0 then #[] else z.cells)[· % (if n * sz = 0 then #[] else z.cells).size]!)) e) := by
  obtain ⟨i, hi, rfl⟩ := Option.map_eq_some_iff.1 hb
  have hw : IntKind.i64.wrap (n : Int) = n := by
    simp only [IntKind.wrap, IntKind.signed, IntKind.bits, Bool.true_and]
    split <;> simp_all <;> omega
  have h1 : ¬ ((n : Int) < 0) := by omega
  have h2 : ¬ ((i.bytes : Int) * (n : Int) > 2 ^ 48) := by
    have h3 : ((i.bytes * n : Nat) : Int) ≤ ((2 ^ 48 : Nat) : Int) := Int.ofNat_le.2 hle
    rw [Int.natCast_mul] at h3
    exact Int.not_lt.2 h3
  simp only [Makes, execOp, Instr.makeSlice, hx, asInt, wpm_bindM, wpm_asIntOf, wpm_underlying (elemOfS_spec ht), wpm_pureM, wpm_typeInfo hi, hw, h1, h2, decide_false, Bool.or_self, Bool.false_or, Int.lt_irrefl, gt_iff_lt, if_false, Bool.false_eq_true]
  refine wpm_askRoom ?_
  simp only [wpm_sizeOf hs, Int.toNat_natCast]
  by_cases h0 : n * sz = 0
  · simp only [h0, if_true, wpm_pureM, newRow, wpm_bindM, wpm_newObj]
    exact fun b hb => ⟨b, hb, rfl, rfl⟩
  · simp only [h0, if_false, wpm_bindM, wpm_zeroValue hz, wpm_pureM, newRow, wpm_newObj]
    exact fun b hb => ⟨b, hb, rfl, rfl⟩
/-- .. of elements of one cell. -/
theorem n_makeSlice1 {t e : TypeId} {x : Operand} {n by_ : Nat} {z : Value} (hx : ρ x = .int .i64 n) (ht : elemOfS P t = some e) (hs : szOf P e = some 1) (hb : byOfS P e = some by_) (hz : zeroOf P e = some z) (hc : z.cells = #[z]) (hle : by_ * n ≤ 2 ^ 48) (hn : n < 2 ^ 63) :
    Makes P ⟨dst, .makeSlice t x x, ty, pos, after, g⟩ ρ m (fun b => .slice (some ⟨b, 0, none⟩) n n) (.cells (Array.replicate n z) e) := by
  have := n_makeSlice (dst := dst) (ty := ty) (pos := pos) (after := after) (g := g) (m := m) hx ht hs hb hz hle hn
  have e : (Array.range (n * 1)).map ((if n * 1 = 0 then #[] else z.cells)[· % (if n * 1 = 0 then #[] else z.cells).size]!) = Array.replicate n z := by
    rw [Nat.mul_one]
    apply Array.ext
    · simp
    · intro i h1 h2
      simp at h1
      have : n ≠ 0 := by omega
      simp [this, hc, Nat.mod_one]
  rw [e] at this
  exact this
end

/-! ### What a chain of writes leaves -/
/-- Outside 'S' the greater part holds what the smaller one does. -/
def Keep (S : List Nat) (m f : Mem) : Prop := f.stop = m.stop ∧ ∀ x o, x ∉ S → m x = some o → f x = some o
theorem keep_refl {S : List Nat} {m : Mem} : Keep S m m := ⟨rfl, fun _ _ _ h => h⟩
theorem keep_new {S : List Nat} {m f : Mem} {b : Nat} {o : Obj} (h : Keep S m f) (hb : m b = none) : Keep S m (f.set b o) := ⟨h.1, fun x p hx e => by
  have : x ≠ b := fun z => by rw [z, hb] at e; cases e
  rw [Mem.set_ne _ _ this]; exact h.2 x p hx e⟩
theorem keep_root {S : List Nat} {m f : Mem} {b : Nat} {o : Obj} (h : Keep S m f) (hb : b ∈ S) : Keep S m (f.set b o) := ⟨h.1, fun x p hx e => by
  have : x ≠ b := fun z => hx (z ▸ hb)
  rw [Mem.set_ne _ _ this]; exact h.2 x p hx e⟩
theorem Keep.more {S S' : List Nat} {m f : Mem} (h : Keep S m f) (hs : ∀ x, x ∈ S → x ∈ S') : Keep S' m f := ⟨h.1, fun x o hx e => h.2 x o (fun z => hx (hs x z)) e⟩
theorem Keep.at {S : List Nat} {m f : Mem} (h : Keep S m f) {x : Nat} {o : Obj} (hx : x ∉ S) (e : m x = some o) : f x = some o := h.2 x o hx e
theorem le_keep0 {m f : Mem} (h : Keep [] m f) : m.le f := ⟨h.1, fun x o e => h.2 x o (by simp) e⟩
theorem le_keep1 {m f : Mem} {a : Nat} {X : Obj} (h : Keep [a] m f) (ha : f a = some X) : (m.set a X).le f := ⟨h.1, fun x o e => by
  simp only [Mem.set] at e
  split at e
  · rename_i z; rw [z, ha]; exact e
  · rename_i z; exact h.2 x o (by simpa using z) e⟩
theorem le_keep2 {m f : Mem} {a b : Nat} {X Y : Obj} (h : Keep [a, b] m f) (ha : f a = some X) (hb : f b = some Y) : ((m.set a X).set b Y).le f := ⟨h.1, fun x o e => by
  simp only [Mem.set] at e
  split at e
  · rename_i z; rw [z, hb]; exact e
  · split at e
    · rename_i z; rw [z, ha]; exact e
    · rename_i z1 z2; exact h.2 x o (by simp; exact ⟨z2, z1⟩) e⟩
theorem body_panic {P : Program} {m : Mem} {n : Nat} {base : Nat → Value} {rs : List (Nat × Value)} {fn : Func} {R : Ending → Mem → Prop} {ch : List PanicEntry} {m' : Mem} (hl : m'.le m) (h : R (.panicked ch) m') : WayE (bodyS P fn R) (.panic ch) n base rs [] m :=
  fun _ ha => ⟨ha.defers, m', hl, h⟩
/-- A call that panics so. -/
def Pan (v : Value) (m' : Mem) : Ending → Mem → Prop := fun e m'' => e = .panicked [{ v, recovered := false }] ∧ m'' = m'
theorem l_cp {P : Program} {ops : Array Oper} {Q : Exit → Act → Mem → Prop} {m m' : Mem} {n : Nat} {base : Nat → Value} {rs : List (Nat × Value)} {ds : List Deferred} {rest : List Oper} {op : Op} {dst : Option Tmp} {ty : TypeId} {pos : String} {after : Array Edge} {f : FuncId} {args : Array Value} {v : Value}
    (hy : Enters P ⟨dst, op, ty, pos, after, none⟩ (ev base rs) m f args) (hc : CallM P f args m (Pan v m')) (h : WayE Q (.panic [{ v, recovered := false }]) n base rs ds m') : OpsE P ops Q (⟨dst, op, ty, pos, after, none⟩ :: rest) n base rs ds m :=
  l_c hy hc fun e m'' ⟨h1, h2⟩ => by subst h1; subst h2; exact h
theorem resolve_fn {ρ : Operand → Value} {x : Operand} {f : FuncId} {first cap l : List Value} {args : Array Operand} {ats : Array TypeId} {ty : TypeId} (hx : ρ x = .func (.func f) first.toArray cap.toArray) (hl : args.toList.map ρ = l) :
    resolve ρ ⟨.value x, args, ats⟩ ty = pure ⟨.fn (.func f) cap.toArray, (first ++ l).toArray⟩ := by
  subst hl
  simp only [resolve, hx, Deferred.ofValue]
  simp [map_toList]
end Go.Sp
