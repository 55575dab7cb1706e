/-
  What is proved: regions that draw their order, over slots that are known by a list. Conditions: those that each theorem names.
-/
import Derived.Test.YtpgooljdodijlaaCF
namespace Go.Sp
open Go.Conc
/-- An order to walk in, over known slots. -/
def DrawE (P : Program) (ops : Array Oper) (Q : Exit → Act → Mem → Prop) (S : Mem → Prop) (l : List (Nat × Bool)) (n : Nat) (base : Nat → Value) (rs : List (Nat × Value)) (ds : List Deferred) (m : Mem) : Prop :=
  ∀ a, Rep a n base rs ds → DrawS P ops Q S l a m
section
variable {P : Program} {ops : Array Oper} {Q : Exit → Act → Mem → Prop} {S : Mem → Prop} {m : Mem} {n : Nat} {base : Nat → Value} {rs : List (Nat × Value)} {ds : List Deferred} {i : Nat} {rest : List (Nat × Bool)}
theorem e_draw {id : Nat} (S : Mem → Prop) (l : List (Nat × Bool)) (hm : P.follows .mixedOrders = true) (hl : (l.length ≤ ops.size && Region.noSelect ops && drawFits ops l (Array.replicate ops.size false)) = true)
    (hS : S m) (hQ : ∀ c a d v m, Q (.panic c) (Act.put a d v) m → Q (.panic c) a m) (h : DrawE P ops Q S l n base rs ds m) : CodeE P (.region id ops true) Q n base rs ds m := fun a ha => wps_draw S l hm hl hS hQ (h a ha)
theorem dr_end (h : WayE Q .normal n base rs ds m) : DrawE P ops Q S [] n base rs ds m := h
variable {dst : Option Tmp} {op : Op} {ty : TypeId} {pos : String} {after : Array Edge}
/-- One that may come up at any time. -/
theorem dr_m {v : Value} (ho : ops[i]? = some ⟨dst, op, ty, pos, after, none⟩) (hd : dstOk n ⟨dst, op, ty, pos, after, none⟩ = true) (hy : ∀ m, S m → Yields P ⟨dst, op, ty, pos, after, none⟩ (ev base rs) m v m)
    (h : DrawE P ops Q S rest n base (outE dst v rs) ds m) : DrawE P ops Q S ((i, true) :: rest) n base rs ds m := by
  intro a ha
  simp only [DrawS, ho]
  refine ⟨v, ?_, h _ (ha.put hd v)⟩
  unfold MuteS
  rw [if_pos (show Region.wanted _ _ = true from rfl)]
  intro m hS
  have := hy m hS
  rw [← ha.eval] at this
  exact wpm_mono (fun _ _ z => z) _ (fun nx m' ⟨h1, h2⟩ => by subst h1; exact ⟨rfl, h2⟩) this
theorem dr_gm {j d : Nat} {w b : Bool} {v : Value} (ho : ops[i]? = some ⟨dst, op, ty, pos, after, some (j, w)⟩) (hd : dstOk n ⟨dst, op, ty, pos, after, some (j, w)⟩ = true) (hj : (ops[j]?).bind (·.dst) = some d) (hdn : Nat.blt d n = true) (hv : look base rs d = .bool b) (hb : b = w)
    (hy : ∀ m, S m → Yields P ⟨dst, op, ty, pos, after, some (j, w)⟩ (ev base rs) m v m) (h : DrawE P ops Q S rest n base (outE dst v rs) ds m) : DrawE P ops Q S ((i, true) :: rest) n base rs ds m := by
  intro a ha
  simp only [DrawS, ho]
  refine ⟨v, ?_, h _ (ha.put hd v)⟩
  unfold MuteS
  rw [if_pos (wanted_yes rfl hj (by rw [ha.tmp (Nat.lt_of_succ_le (Nat.le_of_ble_eq_true hdn)), hv]) hb)]
  intro m hS
  have := hy m hS
  rw [← ha.eval] at this
  exact wpm_mono (fun _ _ z => z) _ (fun nx m' ⟨h1, h2⟩ => by subst h1; exact ⟨rfl, h2⟩) this
theorem dr_gc {j d : Nat} {w b : Bool} {f : FuncId} {args : Array Value} {R : Ending → Mem → Prop} (ho : ops[i]? = some ⟨dst, op, ty, pos, after, some (j, w)⟩) (hd : dstOk n ⟨dst, op, ty, pos, after, some (j, w)⟩ = true) (hj : (ops[j]?).bind (·.dst) = some d) (hdn : Nat.blt d n = true) (hv : look base rs d = .bool b) (hb : b = w)
    (hy : Enters P ⟨dst, op, ty, pos, after, some (j, w)⟩ (ev base rs) m f args) (hc : CallM P f args m R)
    (h : ∀ e m', R e m' → match e with | .returned v => S m' ∧ DrawE P ops Q S rest n base (outE dst v rs) ds m' | .panicked ch => WayE Q (.panic ch) n base rs ds m' | .outgrown => False) : DrawE P ops Q S ((i, false) :: rest) n base rs ds m := by
  intro a ha
  simp only [DrawS, opS, ho]
  rw [if_pos (wanted_yes rfl hj (by rw [ha.tmp (Nat.lt_of_succ_le (Nat.le_of_ble_eq_true hdn)), hv]) hb)]
  refine (ha.eval ▸ hy).wps hc fun e m' r => ?_
  have := h e m' r
  cases e with
  | returned v => exact ⟨this.1, this.2 _ (ha.put hd v)⟩
  | panicked ch => exact this a ha
  | outgrown => exact this
theorem dr_y {v : Value} {m' : Mem} (ho : ops[i]? = some ⟨dst, op, ty, pos, after, none⟩) (hd : dstOk n ⟨dst, op, ty, pos, after, none⟩ = true) (hy : Yields P ⟨dst, op, ty, pos, after, none⟩ (ev base rs) m v m') (hS : S m')
    (h : DrawE P ops Q S rest n base (outE dst v rs) ds m') : DrawE P ops Q S ((i, false) :: rest) n base rs ds m := by
  intro a ha
  simp only [DrawS, opS, ho]
  rw [if_pos (show Region.wanted _ _ = true from rfl)]
  exact (ha.eval ▸ hy).wps ⟨hS, h _ (ha.put hd v)⟩
theorem dr_d {m' : Mem} (ho : ops[i]? = some ⟨none, op, ty, pos, after, none⟩) (hy : Does P ⟨none, op, ty, pos, after, none⟩ (ev base rs) m m') (hS : S m')
    (h : DrawE P ops Q S rest n base rs ds m') : DrawE P ops Q S ((i, false) :: rest) n base rs ds m := by
  intro a ha
  simp only [DrawS, opS, ho]
  rw [if_pos (show Region.wanted _ _ = true from rfl)]
  exact (ha.eval ▸ hy).wps ⟨hS, h _ ha⟩
theorem dr_n {v : Nat → Value} {x : Obj} (ho : ops[i]? = some ⟨dst, op, ty, pos, after, none⟩) (hd : dstOk n ⟨dst, op, ty, pos, after, none⟩ = true) (hy : Makes P ⟨dst, op, ty, pos, after, none⟩ (ev base rs) m v x) 
    (h : ∀ b, m b = none → S (m.set b x) ∧ DrawE P ops Q S rest n base (outE dst (v b) rs) ds (m.set b x)) : DrawE P ops Q S ((i, false) :: rest) n base rs ds m := by
  intro a ha
  simp only [DrawS, opS, ho]
  rw [if_pos (show Region.wanted _ _ = true from rfl)]
  exact (ha.eval ▸ hy).wps fun b hb => ⟨(h b hb).1, (h b hb).2 _ (ha.put hd _)⟩
theorem dr_c {f : FuncId} {args : Array Value} {R : Ending → Mem → Prop} (ho : ops[i]? = some ⟨dst, op, ty, pos, after, none⟩) (hd : dstOk n ⟨dst, op, ty, pos, after, none⟩ = true) (hy : Enters P ⟨dst, op, ty, pos, after, none⟩ (ev base rs) m f args) (hc : CallM P f args m R)
    (h : ∀ e m', R e m' → match e with | .returned v => S m' ∧ DrawE P ops Q S rest n base (outE dst v rs) ds m' | .panicked ch => WayE Q (.panic ch) n base rs ds m' | .outgrown => False) : DrawE P ops Q S ((i, false) :: rest) n base rs ds m := by
  intro a ha
  simp only [DrawS, opS, ho]
  rw [if_pos (show Region.wanted _ _ = true from rfl)]
  refine (ha.eval ▸ hy).wps hc fun e m' r => ?_
  have := h e m' r
  cases e with
  | returned v => exact ⟨this.1, this.2 _ (ha.put hd v)⟩
  | panicked ch => exact this a ha
  | outgrown => exact this
theorem dr_cr {f : FuncId} {args : Array Value} {v : Value} {m' : Mem} (ho : ops[i]? = some ⟨dst, op, ty, pos, after, none⟩) (hd : dstOk n ⟨dst, op, ty, pos, after, none⟩ = true) (hy : Enters P ⟨dst, op, ty, pos, after, none⟩ (ev base rs) m f args) (hc : CallM P f args m (Ret v m'))
    (hS : S m') (h : DrawE P ops Q S rest n base (outE dst v rs) ds m') : DrawE P ops Q S ((i, false) :: rest) n base rs ds m :=
  dr_c ho hd hy hc fun e m'' ⟨h1, h2⟩ => by subst h1; subst h2; exact ⟨hS, h⟩
end
/-! ### A method value is no nil -/
/-- Is the receiver behind an interface value none of nil? -/
def sound (P : Program) (t : TypeId) (v : Value) : Bool :=
  match P.underlying t, v with
  | some (.pointer _), .pointer (some _) => true
  | some (.pointer _), _ => false
  | some _, _ => true
  | none, _ => false
theorem wpm_nilAhead {P : Program} {m : Mem} {t : TypeId} {v : Value} {name : String} {f : FuncId} (h : methOf P t name = some f) (hs : sound P t v = true) {Qp : Value → Mem → Prop} (Q : Option Bool → Mem → Prop) (k : Nat) : (nilAhead (k + 1) t v name).wpm P Qp Q m = Q (some false) m := by
  unfold methOf at h
  unfold sound at hs
  cases hi : P.info? t with
  | none => rw [hi] at h; cases h
  | some i =>
    rw [hi] at h
    dsimp only at h
    cases hm : i.methods.find? (·.name == name) with
    | none => rw [hm] at h; cases h
    | some mm =>
      rw [hm] at h
      dsimp only at h
      split at h
      case isFalse => cases h
      rename_i hp
      have hp : mm.path.toList = [] := by simpa using hp
      simp only [nilAhead, wpm_bindM, wpm_typeInfo hi, hm, hp, followBlind, wpm_pureM]
      cases hf : mm.func with
      | none => rw [hf] at h; cases h
      | some fp =>
        obtain ⟨f', pr⟩ := fp
        cases pr with
        | true => simp only [wpm_pureM]
        | false =>
          rw [hf] at h
          cases hu : P.underlying t with
          | none => rw [hu] at h; cases h
          | some d =>
            rw [hu] at h hs
            simp only [wpm_bindM, wpm_underlying hu]
            cases d <;> first | (cases h; done) | simp only [wpm_pureM]
theorem y_nilCheckM {P : Program} {ρ : Operand → Value} {m : Mem} {dst : Option Tmp} {ty : TypeId} {pos : String} {after : Array Edge} {g : Option (Nat × Bool)} {x : Operand} {name : String} {first captured : Array Value} {t : TypeId} {v : Value} {f : FuncId} (hx : ρ x = .func (.method name) first captured) (h0 : first[0]? = some (.iface t v)) (h : methOf P t name = some f) (hs : sound P t v = true) :
    Yields P ⟨dst, .nilCheck x, ty, pos, after, g⟩ ρ m (.func (.method name) first captured) m := by
  have hk : ∃ k, P.types.size + Made.depth = k + 1 := ⟨P.types.size + Made.depth - 1, by simp [Made.depth]⟩
  obtain ⟨k, hk⟩ := hk
  simp only [Yields, execOp, hx, h0, wpm_bindM, wpm_program, hk, wpm_nilAhead h hs, wpm_pureM]
  simp [wpm_pureM]
theorem take3 {c : Array Value} {o : Nat} {x y z : Value} (h0 : c[o]? = some x) (h1 : c[o + 1]? = some y) (h2 : c[o + 2]? = some z) : (c.toList.drop o).take 3 = [x, y, z] := by
  obtain ⟨l0, e0⟩ := Array.getElem?_eq_some_iff.1 h0
  obtain ⟨l1, e1⟩ := Array.getElem?_eq_some_iff.1 h1
  obtain ⟨l2, e2⟩ := Array.getElem?_eq_some_iff.1 h2
  rw [List.drop_eq_getElem_cons (by simpa using l0), List.drop_eq_getElem_cons (by simpa using l1), List.drop_eq_getElem_cons (by simpa using l2)]
  simp [e0, e1, e2]
end Go.Sp
