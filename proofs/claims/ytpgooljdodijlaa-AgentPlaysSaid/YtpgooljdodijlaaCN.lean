/-
  What is proved: walks of one who does not hold the token, to its seat, over cells that are only read; and moves of a run at a frame whose slots are known. Conditions: none beyond those that each theorem names.
-/
import Derived.Test.YtpgooljdodijlaaCK
import Derived.Conc.TokenWords
namespace Go.Sp
open Go.Conc

/-! ### Terms that at most read cells -/
def calm {α : Type} (P : Program) : Sem α → Prop
  | .pure _ => True
  | .load _ _ k => ∀ v, calm P (k v)
  | .shape _ k => ∀ v, calm P (k v)
  | .program k => calm P (k P)
  | .halt _ => True
  | _ => False
theorem calm_bind {P : Program} {α β : Type} {e : Sem α} {f : α → Sem β} (h : calm P e) (hf : ∀ a, calm P (f a)) : calm P (e.bind f) := by
  induction e with
  | pure a => exact hf a
  | load md a k ih => exact fun v => ih v (h v)
  | shape r k ih => exact fun v => ih v (h v)
  | program k ih => exact ih P h
  | halt x => trivial
  | _ => exact h.elim
theorem calm_run {α : Type} {P : Program} (e : Sem α) : ∀ {Q : α → Mem → Prop} {m : Mem}, calm P e → e.wpm P (fun _ _ => False) Q m → ∀ w : World, m.on w.heap →
    ∃ a es, Q a m ∧ e.runT P w #[] = (.ok a w, es) ∧ ∀ ev ∈ es, ∃ ad v, ev = ⟨.cell ad, false, false⟩ ∧ m.cell ad = some v := by
  induction e with
  | pure a => exact fun _ h w _ => ⟨a, #[], h, rfl, fun ev he => by simp at he⟩
  | load md a k ih =>
    intro Q m hc h w hm
    simp only [Sem.wpm] at h
    obtain ⟨rfl, h⟩ := h
    cases hv : m.cell a with
    | none => rw [hv] at h; exact h.elim
    | some v =>
      rw [hv] at h
      obtain ⟨x, es, q, hr, he⟩ := ih v (hc v) h w hm
      have hw := Mem.cell_on hm hv
      obtain ⟨es', e1, e2⟩ := runT_events P (k v) w (#[].push ⟨.cell a, false, false⟩)
      rw [e2, Prod.mk.injEq] at hr
      refine ⟨x, #[].push ⟨.cell a, false, false⟩ ++ es', q, ?_, fun ev hev => ?_⟩
      · simp only [Sem.runT, hw]
        rw [show (Mode.plain == Mode.atomic) = false from rfl, e1, hr.1]
      · rcases Array.mem_append.1 hev with h1 | h1
        · simp only [List.push_toArray, List.nil_append, List.mem_toArray, List.mem_singleton] at h1
          exact ⟨a, v, h1, hv⟩
        · rw [hr.2] at h1; exact he ev h1
  | shape r k ih =>
    intro Q m hc h w hm
    simp only [Sem.wpm] at h
    obtain ⟨hbare, h⟩ := h
    cases hr : m r with
    | none => rw [hr] at h; exact h.elim
    | some p =>
      rw [hr] at h
      obtain ⟨o', h1, h2⟩ := hm _ _ hr
      simp only [Sem.runT]
      rcases h2 with rfl | ⟨c, e, k1, c', f2, rfl, rfl, h5, _⟩
      · have hsh : w.shape? r = (match some o' with | some (.cells c e _) => some (e, c.size) | _ => none) := by
          unfold World.shape?; rw [← h1]; rfl
        rw [hsh]
        cases o' <;> exact ih _ (hc _) h w hm
      · unfold Mem.bare at hbare
        rw [hr] at hbare
        simp at hbare
        exact absurd hbare h5.1
  | program k ih => exact fun hc h w hm => ih P hc h w hm
  | halt x => intro Q m _ h; cases x <;> exact h.elim
  | _ => intro Q m hc; exact hc.elim
section
variable {P : Program}
theorem calm_underlyingV {t : TypeId} {d : TypeDesc} {β : Type} {f : TypeDesc → Sem β} (h : P.underlying t = some d) (hf : calm P (f d)) : calm P ((underlying t).bind f) := by
  show calm P ((Sem.bind program _).bind f)
  simp only [program, Sem.bind, calm, h]
  exact hf
theorem calm_typeInfoV {t : TypeId} {d : TypeInfo} {β : Type} {f : TypeInfo → Sem β} (h : P.info? t = some d) (hf : calm P (f d)) : calm P ((typeInfo t).bind f) := by
  show calm P ((Sem.bind program _).bind f)
  simp only [program, Sem.bind, calm, h]
  exact hf
theorem calm_sizeOfV {t : TypeId} {n : Nat} {β : Type} {f : Nat → Sem β} (h : szOf P t = some n) (hf : calm P (f n)) : calm P ((sizeOf t).bind f) := by
  obtain ⟨i, hi, rfl⟩ := Option.map_eq_some_iff.1 h
  show calm P (((typeInfo t).bind fun i => pure i.size).bind f)
  rw [bind_assoc']
  exact calm_typeInfoV hi hf
variable {ρ : Operand → Value} {dst : Option Tmp} {ty : TypeId} {pos : String} {after : Array Edge} {g : Option (Nat × Bool)}
theorem calm_move {x : Operand} : calm P (execOp ρ ⟨dst, .move x, ty, pos, after, g⟩) := trivial
theorem calm_assign {x : Operand} : calm P (execOp ρ ⟨dst, .assign x, ty, pos, after, g⟩) := trivial
theorem calm_load {t : TypeId} {x : Operand} {ad : Addr} (hx : ρ x = .pointer (some ad)) (ht : aggOf P t = some false) : calm P (execOp ρ ⟨dst, .load t x, ty, pos, after, g⟩) := by
  unfold aggOf at ht
  cases hd : P.underlying t with
  | none => rw [hd] at ht; cases ht
  | some d =>
    rw [hd] at ht
    show calm P ((((Instr.sureAddr (ρ x)).bind fun a => loadVar t a)).bind _)
    rw [hx]
    show calm P (((loadVar t ad)).bind _)
    show calm P ((((underlying t).bind _).bind _).bind _)
    rw [bind_assoc', bind_assoc']
    refine calm_underlyingV hd ?_
    cases d <;> first | exact fun _ => trivial | cases ht
theorem calm_nilCheck {x : Operand} {ad : Addr} (hx : ρ x = .pointer (some ad)) : calm P (execOp ρ ⟨dst, .nilCheck x, ty, pos, after, g⟩) := by
  simp only [execOp, hx]; trivial
theorem calm_field {s i : Nat} {x : Operand} {ad : Addr} {fs : Array Field} {f : Field} {n : Nat} (hx : ρ x = .pointer (some ad)) (hs : P.underlying s = some (.struct fs)) (hf : fs[i]? = some f) (hn : szOf P f.type = some (n + 1)) :
    calm P (execOp ρ ⟨dst, .fieldAddr s x i, ty, pos, after, g⟩) := by
  show calm P (((underlying s).bind _).bind _)
  rw [bind_assoc']
  refine calm_underlyingV hs ?_
  simp only [hf, hx]
  show calm P ((((fieldPlace ad f)).bind _).bind _)
  show calm P ((((sizeOf f.type).bind _).bind _).bind _)
  rw [bind_assoc', bind_assoc']
  refine calm_sizeOfV hn ?_
  simp only [Nat.add_eq_zero_iff, Nat.one_ne_zero, and_false, if_false]
  trivial
end

/-! ### On the way to a seat -/
/-- What is only read, among the still cells. -/
structure QOk (R : Nat → Option Obj) (K : World → Prop) (Still : Loc → Prop) (B : Nat) : Prop where
  keep : ∀ w, K w → KR R w
  still : ∀ l, StR R l → Still l
  below : ∀ b o, R b = some o → b < B
/-- It walks to its seat's communication, over what is only read. -/
def QGo (P : Program) (main : Bool) (R : Nat → Option Obj) (S : Seat) (g : Goroutine) : Prop :=
  ∃ k, ∀ (K : World → Prop) (Still : Loc → Prop) (B : Nat) (w : World), QOk R K Still B → Goes P main (RK K) (DS Still B) (fun g _ => ∃ g₂, AtIn P main K Still B S g g₂) k g w
theorem QGo.sits {P : Program} {main : Bool} {R : Nat → Option Obj} {S : Seat} {g : Goroutine} (h : QGo P main R S g) : ∃ n, ∀ (K : World → Prop) (Still : Loc → Prop) (B : Nat), QOk R K Still B → Sits P main K Still B S n g := by
  obtain ⟨k, h⟩ := h
  exact ⟨k + 1, fun K Still B hq => .inl ⟨k, default, rfl, h K Still B default hq⟩⟩
section
variable {P : Program} {main : Bool} {R : Nat → Option Obj} {S : Seat}
theorem QGo.ctl {fr fr' : Frame} {cs cs' : List Frame} (hst : ∀ w, stepG P main (G fr cs) w = .go (G fr' cs') w #[]) (h : QGo P main R S (G fr' cs')) : QGo P main R S (G fr cs) := by
  obtain ⟨k, h⟩ := h
  refine ⟨k + 1, fun K Still B w hq => Goes.step rfl fun w₁ _ => ?_⟩
  rw [hst]
  exact ⟨ds_none _, h K Still B w₁ hq⟩
/-- It is there. -/
theorem QGo.at {b : Frame} {a : Act} {k : List Item} {cs : List Frame} {ops : Array Oper} {i : Nat} {rest : List Nat} {o : Oper} (ho : ops[i]? = some o) (hw : Region.wanted o (yielded ops a.tmps) = true) (hk : b.kind ≠ .early)
    (hr : ∀ w, (execOp a.eval o).runT P w #[] = (.ok (.comm S.cases true S.shape) w, #[])) (h : S.home (G (b.at a (.inRegion ops (i :: rest) :: k)) cs)) : QGo P main R S (G (b.at a (.inRegion ops (i :: rest) :: k)) cs) :=
  ⟨0, fun K Still B w _ => Goes.stop fun w₁ _ => ⟨_, atIn_of (K := K) ho hw hk (fun w => by rw [← Sem.runT_fst P _ w #[], hr w]) (fun w => by show ((execOp a.eval o).runT P w #[]).2 = _; rw [hr w]) h⟩⟩
theorem cellStR {R : Nat → Option Obj} {st : (Nat → Option Nat) → Nat → Bool → Goroutine → World → Prop} {ad : Addr} {v : Value} (h : (Mem.mk R st).cell ad = some v) : StR R (.cell ad) ∧ ∃ o, R ad.block = some o := by
  unfold Mem.cell at h
  cases hb : R ad.block with
  | none => simp only [hb] at h; cases h
  | some o =>
    refine ⟨?_, o, rfl⟩
    simp only [hb] at h
    cases o <;> first | (cases h; done) | skip
    rename_i c e z
    dsimp only at h
    split at h
    · cases h
    · rename_i hs
      obtain ⟨b, i, sp⟩ := ad
      have : sp = none := by cases sp <;> simp_all
      subst this
      exact ⟨b, i, c, e, z, rfl, hb, (Array.getElem?_eq_some_iff.1 h).1⟩
/-- An operation that at most reads what is only read. -/
theorem QGo.op {b : Frame} {a : Act} {k : List Item} {cs : List Frame} {ops : Array Oper} {i : Nat} {rest : List Nat} {o : Oper} {v : Value} (ho : ops[i]? = some o) (hg : o.guard = none) (hk : b.kind ≠ .early)
    (hc : calm P (execOp a.eval o)) (hy : Yields P o a.eval ⟨R, fun _ _ _ _ _ => True⟩ v ⟨R, fun _ _ _ _ _ => True⟩) (h : QGo P main R S (G (b.at (a.put o.dst v) (.inRegion ops rest :: k)) cs)) : QGo P main R S (G (b.at a (.inRegion ops (i :: rest) :: k)) cs) := by
  obtain ⟨n, h⟩ := h
  refine ⟨n + 1, fun K Still B w hq => Goes.step rfl fun w₁ h₁ => ?_⟩
  obtain ⟨nx, es, ⟨h2, _⟩, h3, h4⟩ := calm_run _ hc hy w₁ (hq.keep w₁ h₁)
  subst h2
  have hr : (execOp a.eval o).run P w₁ = .ok (.value v) w₁ := by rw [← Sem.runT_fst P _ w₁ #[], h3]
  have he : (execOp a.eval o).events P w₁ #[] = es := by show ((execOp a.eval o).runT P w₁ #[]).2 = _; rw [h3]
  have hw : Region.wanted o (yielded ops a.tmps) = true := by simp [Region.wanted, hg]
  rw [stepG_value ho hw hk hr]
  refine ⟨⟨rfl, fun e hee => ?_⟩, h K Still B w₁ hq⟩
  have := seen_sub P b.fn _ e hee
  rw [he] at this
  obtain ⟨ad, u, rfl, hcell⟩ := h4 e this
  obtain ⟨h5, o', h6⟩ := cellStR hcell
  exact ⟨ad, rfl, hq.still _ h5, hq.below _ _ h6⟩

/-! .. at frames whose slots are known -/
def AtQ (P : Program) (main : Bool) (R : Nat → Option Obj) (S : Seat) (b : Frame) (kk : List Item) (cs : List Frame) (n : Nat) (base : Nat → Value) (rs : List (Nat × Value)) (ds : List Deferred) : Prop :=
  ∀ a, Rep a n base rs ds → QGo P main R S (G (b.at a kk) cs)
variable {b : Frame} {k : List Item} {cs : List Frame} {ops : Array Oper} {i : Nat} {rest : List Nat} {n : Nat} {base : Nat → Value} {rs : List (Nat × Value)} {ds : List Deferred}
theorem q_end (h : AtQ P main R S b k cs n base rs ds) : AtQ P main R S b (.inRegion ops [] :: k) cs n base rs ds := fun a ha => QGo.ctl (fun _ => stepG_region_end) (h a ha)
theorem q_seq {x y : Code} (h : AtQ P main R S b (.code x :: .code y :: k) cs n base rs ds) : AtQ P main R S b (.code (.seq x y) :: k) cs n base rs ds := fun a ha => QGo.ctl (fun _ => stepG_seq) (h a ha)
theorem q_reg {id : Nat} (h : AtQ P main R S b (.inRegion ops (List.range ops.size) :: k) cs n base rs ds) : AtQ P main R S b (.code (.region id ops false) :: k) cs n base rs ds := fun a ha => QGo.ctl (fun _ => stepG_region) (h a ha)
theorem q_y {dst : Option Tmp} {op : Op} {ty : TypeId} {pos : String} {after : Array Edge} {v : Value} (ho : ops[i]? = some ⟨dst, op, ty, pos, after, none⟩) (hk : b.kind ≠ .early) (hd : dstOk n ⟨dst, op, ty, pos, after, none⟩ = true)
    (hc : calm P (execOp (ev base rs) ⟨dst, op, ty, pos, after, none⟩)) (hy : Yields P ⟨dst, op, ty, pos, after, none⟩ (ev base rs) ⟨R, fun _ _ _ _ _ => True⟩ v ⟨R, fun _ _ _ _ _ => True⟩)
    (h : AtQ P main R S b (.inRegion ops rest :: k) cs n base (outE dst v rs) ds) : AtQ P main R S b (.inRegion ops (i :: rest) :: k) cs n base rs ds := fun a ha =>
  QGo.op ho rfl hk (ha.eval ▸ hc) (ha.eval ▸ hy) (h _ (ha.put hd v))
theorem q_at {dst : Option Tmp} {op : Op} {ty : TypeId} {pos : String} {after : Array Edge} (ho : ops[i]? = some ⟨dst, op, ty, pos, after, none⟩) (hk : b.kind ≠ .early)
    (hr : ∀ w, (execOp (ev base rs) ⟨dst, op, ty, pos, after, none⟩).runT P w #[] = (.ok (.comm S.cases true S.shape) w, #[]))
    (h : ∀ a, Rep a n base rs ds → S.home (G (b.at a (.inRegion ops (i :: rest) :: k)) cs)) : AtQ P main R S b (.inRegion ops (i :: rest) :: k) cs n base rs ds := fun a ha =>
  QGo.at ho rfl hk (fun w => by rw [ha.eval]; exact hr w) (h a ha)

/-! ### A run of one's own at a frame whose slots are known -/
def AtF (P : Program) (main : Bool) (b : Frame) (kk : List Item) (cs : List Frame) (n : Nat) (base : Nat → Value) (rs : List (Nat × Value)) (ds : List Deferred) (m : Mem) : Prop :=
  ∀ a, Rep a n base rs ds → RunM P main (G (b.at a kk) cs) m
variable {m : Mem}
theorem r_code {c : Code} (hk : b.kind ≠ .early) (h : CodeE P c (AfterS P main b k cs) n base rs ds m) : AtF P main b (.code c :: k) cs n base rs ds m := fun a ha => runM_code c _ _ _ (h a ha) b k cs hk fun _ _ _ q => q
theorem r_seq {x y : Code} (h : AtF P main b (.code x :: .code y :: k) cs n base rs ds m) : AtF P main b (.code (.seq x y) :: k) cs n base rs ds m := fun a ha => RunM.ctl (fun _ => stepG_seq) (h a ha)
theorem r_reg {id : Nat} (h : AtF P main b (.inRegion ops (List.range ops.size) :: k) cs n base rs ds m) : AtF P main b (.code (.region id ops false) :: k) cs n base rs ds m := fun a ha => RunM.ctl (fun _ => stepG_region) (h a ha)
theorem r_end (h : AtF P main b k cs n base rs ds m) : AtF P main b (.inRegion ops [] :: k) cs n base rs ds m := fun a ha => RunM.ctl (fun _ => stepG_region_end) (h a ha)
theorem r_way (h : AtF P main b k cs n base rs ds m) : WayE (AfterS P main b k cs) .normal n base rs ds m := h
theorem r_y {dst : Option Tmp} {op : Op} {ty : TypeId} {pos : String} {after : Array Edge} {v : Value} {m' : Mem} (ho : ops[i]? = some ⟨dst, op, ty, pos, after, none⟩) (hk : b.kind ≠ .early) (hd : dstOk n ⟨dst, op, ty, pos, after, none⟩ = true)
    (hy : Yields P ⟨dst, op, ty, pos, after, none⟩ (ev base rs) m v m') (h : AtF P main b (.inRegion ops rest :: k) cs n base (outE dst v rs) ds m') : AtF P main b (.inRegion ops (i :: rest) :: k) cs n base rs ds m := fun a ha =>
  runM_oper (K := fun a' m'' => Rep a' n base (outE dst v rs) ds ∧ m'' = m') (Qp := fun _ _ _ => False) hk ho rfl ((ha.eval ▸ hy).wps ⟨ha.put hd v, rfl⟩) (fun a' m'' ⟨h1, h2⟩ => by subst h2; exact h a' h1) (fun _ _ _ z => z.elim)
theorem r_d {op : Op} {ty : TypeId} {pos : String} {after : Array Edge} {m' : Mem} (ho : ops[i]? = some ⟨none, op, ty, pos, after, none⟩) (hk : b.kind ≠ .early)
    (hy : Does P ⟨none, op, ty, pos, after, none⟩ (ev base rs) m m') (h : AtF P main b (.inRegion ops rest :: k) cs n base rs ds m') : AtF P main b (.inRegion ops (i :: rest) :: k) cs n base rs ds m := fun a ha =>
  runM_oper (K := fun a' m'' => Rep a' n base rs ds ∧ m'' = m') (Qp := fun _ _ _ => False) hk ho rfl ((ha.eval ▸ hy).wps ⟨ha, rfl⟩) (fun a' m'' ⟨h1, h2⟩ => by subst h2; exact h a' h1) (fun _ _ _ z => z.elim)
/-- A frame at a communication: served with v it goes on. -/
theorem served_at {a : Act} {dst : Option Tmp} {op : Op} {ty : TypeId} {pos : String} {after : Array Edge} (ho : ops[i]? = some ⟨dst, op, ty, pos, after, none⟩) (v : Value) :
    Go.Conc.served (G (b.at a (.inRegion ops (i :: rest) :: k)) cs) v = G (b.at (a.put dst v) (.inRegion ops rest :: k)) cs := by
  rw [served_fr, Frame.finish_at, ho]; rfl
end
end Go.Sp
