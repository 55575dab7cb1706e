/-
  What is proved: comparisons, slices, interfaces over a part of the heap. Conditions: those that each theorem names.
-/
import Derived.Test.YtpgooljdodijlaaCE
namespace Go.Sp
open Go.Conc
section
variable {P : Program} {m : Mem} {Qp : Value → Mem → Prop}
/-- '==' of two scalars of a type. -/
def eqScalar (P : Program) (t : TypeId) (x y : Value) : Option Bool :=
  match P.underlying t, x, y with
  | some .bool, .bool a, .bool b => some (a == b)
  | some (.int _), .int k a, .int k' b => if k = k' then some (a == b) else none
  | some (.pointer _), .pointer none, .pointer b => some b.isNone
  | some (.pointer _), .pointer (some _), .pointer none => some false
  | some (.interface _), .nilIface, .nilIface => some true
  | some (.interface _), .nilIface, .iface _ _ => some false
  | some (.interface _), .iface _ _, .nilIface => some false
  | some (.func _ _ _), .nilFunc, .nilFunc => some true
  | some (.func _ _ _), .nilFunc, .func _ _ _ => some false
  | some (.func _ _ _), .func _ _ _, .nilFunc => some false
  | some (.slice _), .slice none _ _, .slice b _ _ => some b.isNone
  | some (.slice _), .slice (some _) _ _, .slice none _ _ => some false
  | _, _, _ => none
theorem wpm_eqScalar {t : TypeId} {x y : Value} {r : Bool} (h : eqScalar P t x y = some r) (d : Nat) (Q : Bool → Mem → Prop) (m : Mem) : (Op.equalIn (d + 1) t x y).wpm P Qp Q m = Q r m := by
  unfold eqScalar at h
  split at h
  case h_2 =>
    rename_i hd
    split at h
    · rename_i hk; obtain rfl := Option.some.inj h; subst hk; simp only [Op.equalIn, wpm_bindM, wpm_underlying hd, if_true, wpm_pureM]
    · cases h
  all_goals first | cases h | skip
  all_goals (rename_i hd; simp only [Op.equalIn, wpm_bindM, wpm_underlying hd, wpm_pureM])
/-- .. of two structs' cells, field by field. -/
def eqFields (P : Program) : List Field → Array Value → Array Value → Option Bool
  | [], _, _ => some true
  | f :: fs, xs, ys => if f.name ≠ "_" then
      match aggOf P f.type, xs[f.offset]?, ys[f.offset]? with
      | some false, some x, some y => (eqScalar P f.type x y).bind fun b => (eqFields P fs xs ys).map fun c => b && c
      | _, _, _ => none
    else eqFields P fs xs ys
theorem wpm_part {t : TypeId} {cs : Array Value} {o : Nat} {v : Value} (ht : aggOf P t = some false) (hv : cs[o]? = some v) (Q : Value → Mem → Prop) (m : Mem) : (part t cs o).wpm P Qp Q m = Q v m := by
  unfold part
  rw [wpm_bindM, wpm_isAgg ht]
  simp [hv, wpm_pureM]
theorem wpm_eqStruct {t : TypeId} {fs : Array Field} {xs ys : Array Value} {r : Bool} (ht : P.underlying t = some (.struct fs)) (hs : P.stoodInHeld t = false) (h : eqFields P fs.toList xs ys = some r) (d : Nat) (Q : Bool → Mem → Prop) (m : Mem) :
    (Op.equalIn (d + 2) t (.agg xs) (.agg ys)).wpm P Qp Q m = Q r m := by
  rw [show d + 2 = (d + 1) + 1 from rfl]
  unfold Op.equalIn
  simp only [wpm_bindM, wpm_underlying ht, wpm_program, hs, Bool.false_eq_true, if_false]
  rw [← Array.forIn_toList]
  have key : ∀ (l : List Field) (r : Bool), eqFields P l xs ys = some r → ∀ (Q : Option Bool × Unit → Mem → Prop),
      (forIn l ((none, ()) : Option Bool × Unit) (fun (f : Field) (_ : Option Bool × Unit) => (if f.name ≠ "_" then do
          let a ← part f.type xs f.offset
          let b ← part f.type ys f.offset
          let c ← Op.equalIn (d + 1) f.type a b
          if (!c) = true then pure (ForInStep.done (some false, ())) else pure (ForInStep.yield (none, ()))
        else pure (ForInStep.yield (none, ())) : Sem (ForInStep (Option Bool × Unit))))).wpm P Qp Q m = Q (if r then (none, ()) else (some false, ())) m := by
    intro l
    induction l with
    | nil => intro r h Q; obtain rfl := Option.some.inj h; simp [wpm_pureM]
    | cons f l ih =>
      intro r h Q
      rw [List.forIn_cons, wpm_bindM]
      unfold eqFields at h
      by_cases hn : f.name ≠ "_"
      · rw [if_pos hn] at h ⊢
        split at h
        · rename_i x y h1 h2 h3
          obtain ⟨b, hb, h⟩ := Option.bind_eq_some_iff.1 h
          obtain ⟨c, hc, rfl⟩ := Option.map_eq_some_iff.1 h
          simp only [wpm_bindM, wpm_part h1 h2, wpm_part h1 h3, wpm_eqScalar hb]
          cases b with
          | true => simp only [Bool.not_true, Bool.false_eq_true, if_false, wpm_pureM, Bool.true_and]; exact ih c hc Q
          | false => simp [wpm_pureM]
        · cases h
      · rw [if_neg hn] at h ⊢
        simp only [wpm_pureM]
        exact ih r h Q
  refine (key _ r h _).trans ?_
  cases r <;> rfl
end
section
variable {P : Program} {ρ : Operand → Value} {m : Mem} {dst : Option Tmp} {ty : TypeId} {pos : String} {after : Array Edge} {g : Option (Nat × Bool)}
theorem y_eqStruct {t yt : TypeId} {x y : Operand} {fs : Array Field} {xs ys : Array Value} {r : Bool} (hx : ρ x = .agg xs) (hy : ρ y = .agg ys) (ht : P.underlying t = some (.struct fs)) (hs : (P.stoodInHeld t || P.eqGuardType P.depth t) = false)
    (h : eqFields P fs.toList xs ys = some r) : Yields P ⟨dst, .binOp .eql t x y yt, ty, pos, after, g⟩ ρ m (.bool r) m := by
  simp only [Bool.or_eq_false_iff] at hs
  simp [Yields, execOp, hx, hy, wpm_bindM, eqGuard, wpm_program, hs.2, wpm_pureM, binOp, Op.equal, Op.maxDepth]
  rw [map_eq_pure_bind, wpm_bindM, show (10000 : Nat) = 9998 + 2 from rfl, wpm_eqStruct ht hs.1 h]
  exact ⟨rfl, rfl⟩
theorem y_neStruct {t yt : TypeId} {x y : Operand} {fs : Array Field} {xs ys : Array Value} {r : Bool} (hx : ρ x = .agg xs) (hy : ρ y = .agg ys) (ht : P.underlying t = some (.struct fs)) (hs : (P.stoodInHeld t || P.eqGuardType P.depth t) = false)
    (h : eqFields P fs.toList xs ys = some r) : Yields P ⟨dst, .binOp .neq t x y yt, ty, pos, after, g⟩ ρ m (.bool !r) m := by
  simp only [Bool.or_eq_false_iff] at hs
  simp [Yields, execOp, hx, hy, wpm_bindM, eqGuard, wpm_program, hs.2, wpm_pureM, binOp, Op.equal, Op.maxDepth]
  rw [map_eq_pure_bind, wpm_bindM, show (10000 : Nat) = 9998 + 2 from rfl, wpm_eqStruct ht hs.1 h]
  exact ⟨rfl, rfl⟩
/-- '==' and '!=' of scalars (not of two whole numbers: 'y_int'); two nil interfaces: one of them written as a constant. -/
def eqPlain (x y : Operand) (u v : Value) : Bool :=
  match u, v with
  | .int _ _, _ => false
  | .agg _, _ => false
  | .nilIface, .nilIface => (match x with | .const _ => true | _ => false) || (match y with | .const _ => true | _ => false)
  | _, _ => true
theorem y_eql {t yt : TypeId} {x y : Operand} {u v : Value} {r : Bool} (hx : ρ x = u) (hy : ρ y = v) (hp : eqPlain x y u v = true) (h : eqScalar P t u v = some r) : Yields P ⟨dst, .binOp .eql t x y yt, ty, pos, after, g⟩ ρ m (.bool r) m := by
  subst hx; subst hy
  have he := fun d Q => wpm_eqScalar (Qp := fun _ _ => False) h d Q m
  simp only [Yields, execOp, wpm_bindM]
  generalize ρ x = u at *
  generalize ρ y = v at *
  have h2 : ∀ Q : Value → Mem → Prop, (binOp .eql t u v).wpm P (fun _ _ => False) Q m = Q (.bool r) m := by
    intro Q
    have : binOp .eql t u v = (do pure (.bool (← Op.equal t u v)) : Sem Value) := by
      unfold eqScalar at h
      split at h <;> first | rfl | (simp [eqPlain] at hp; done) | cases h
    rw [this, wpm_bindM]
    exact he _ _
  have h1 : ∀ Q : Unit → Mem → Prop, (eqGuard .eql t x y u v).wpm P (fun _ _ => False) Q m = Q () m := by
    intro Q
    unfold eqScalar at h
    split at h <;> first | (simp [eqGuard, wpm_pureM]; done) | (simp [eqPlain] at hp; simp [eqGuard]; done) | cases h | skip
    all_goals (cases x <;> cases y <;> first | (simp [eqPlain] at hp; done) | (simp [eqGuard, wpm_pureM]; done))
  rw [h1, h2]
  exact ⟨rfl, rfl⟩
theorem y_neq {t yt : TypeId} {x y : Operand} {u v : Value} {r : Bool} (hx : ρ x = u) (hy : ρ y = v) (hp : eqPlain x y u v = true) (h : eqScalar P t u v = some r) : Yields P ⟨dst, .binOp .neq t x y yt, ty, pos, after, g⟩ ρ m (.bool !r) m := by
  subst hx; subst hy
  have he := fun d Q => wpm_eqScalar (Qp := fun _ _ => False) h d Q m
  simp only [Yields, execOp, wpm_bindM]
  generalize ρ x = u at *
  generalize ρ y = v at *
  have h2 : ∀ Q : Value → Mem → Prop, (binOp .neq t u v).wpm P (fun _ _ => False) Q m = Q (.bool !r) m := by
    intro Q
    have : binOp .neq t u v = (do pure (.bool (!(← Op.equal t u v))) : Sem Value) := by
      unfold eqScalar at h
      split at h <;> first | rfl | (simp [eqPlain] at hp; done) | cases h
    rw [this, wpm_bindM]
    exact he _ _
  have h1 : ∀ Q : Unit → Mem → Prop, (eqGuard .neq t x y u v).wpm P (fun _ _ => False) Q m = Q () m := by
    intro Q
    unfold eqScalar at h
    split at h <;> first | (simp [eqGuard, wpm_pureM]; done) | (simp [eqPlain] at hp; simp [eqGuard]; done) | cases h | skip
    all_goals (cases x <;> cases y <;> first | (simp [eqPlain] at hp; done) | (simp [eqGuard, wpm_pureM]; done))
  rw [h1, h2]
  exact ⟨rfl, rfl⟩
end
end Go.Sp
