/-
  What is proved: a calculus of sub-heaps for the model's operations. Conditions: none beyond those that each theorem names.
  Part A: memory as a partial map of blocks; what an operation's term asks of it ('Sem.wpm'), and that the model's run keeps to it, with the accesses that it lists.
-/
import Derived.Conc.Own2
import Derived.Conc.Machine
namespace Go.Sp
open Go.Conc

/-- A part of the heap: some blocks, by their numbers; and where the run that holds it must come to. -/
@[ext] structure Mem where
  at_ : Nat → Option Obj
  stop : (Nat → Option Nat) → Nat → Bool → Goroutine → World → Prop
instance : CoeFun Mem (fun _ => Nat → Option Obj) := ⟨Mem.at_⟩

def Mem.set (m : Mem) (b : Nat) (o : Obj) : Mem := { m with at_ := fun x => if x = b then some o else m x }
def Mem.le (m m' : Mem) : Prop := m'.stop = m.stop ∧ ∀ b o, m b = some o → m' b = some o
/-- A block that is only read (or the first cells of one): it stands in the part as if all of it were shut. -/
def RO (o : Obj) : Prop := ∃ c e, o = .cells c e (0, c.size) ∧ c.size ≠ 0
/-- A block may be known but for its last cells; and its first cells be only read ('shut'). -/
def Alike (o o' : Obj) : Prop := o' = o ∨ ∃ c e k c' f, o = .cells c e (0, k) ∧ o' = .cells c' e f ∧ (k ≠ 0 ∧ (f = (0, 0) ∨ k = c.size)) ∧ ∀ (i : Nat) (v : Value), c[i]? = some v → c'[i]? = some v
/-- From which of its cells on a block may be written. -/
def floor : Obj → Nat
  | .cells _ _ (0, k) => k
  | _ => 0
/-- The heap holds this part. -/
def Mem.on (m : Mem) (h : Array Obj) : Prop := ∀ b o, m b = some o → ∃ o', h[b]? = some o' ∧ Alike o o'
def Mem.cell (m : Mem) (a : Addr) : Option Value :=
  match m a.block with
  | some (.cells c _ _) => if a.spot.isSome then none else c[a.off]?
  | _ => none
def Mem.frz (m : Mem) (a : Addr) : Bool :=
  match m a.block with
  | some (.cells _ _ (lo, hi)) => lo ≤ a.off && a.off < hi
  | _ => false
def Mem.put (m : Mem) (a : Addr) (v : Value) : Mem :=
  match m a.block with
  | some (.cells c e f) => m.set a.block (.cells (if a.spot.isSome then c else c.setIfInBounds a.off v) e f)
  | _ => m
/-- Whether nothing of the block is shut. -/
def Mem.bare (m : Mem) (b : Nat) : Bool :=
  match m b with
  | some (.cells _ _ (lo, hi)) => lo == 0 && hi == 0
  | some _ => true
  | none => false

theorem Mem.le_refl (m : Mem) : m.le m := ⟨rfl, fun _ _ h => h⟩
theorem Mem.le_trans {a b c : Mem} (h : a.le b) (h' : b.le c) : a.le c := ⟨h'.1.trans h.1, fun x o e => h'.2 x o (h.2 x o e)⟩
theorem Mem.on_le {a b : Mem} {h : Array Obj} (hab : a.le b) (hb : b.on h) : a.on h := fun x o e => hb x o (hab.2 x o e)
theorem Mem.le_set {m : Mem} {b : Nat} {o : Obj} (h : m b = none) : m.le (m.set b o) := ⟨rfl, fun x p e => by
  simp only [Mem.set]; split
  · rename_i hx; rw [hx, h] at e; cases e
  · exact e⟩
theorem Mem.set_same (m : Mem) (b : Nat) (o : Obj) : m.set b o b = some o := by simp [Mem.set]
theorem Mem.set_ne (m : Mem) {b x : Nat} (o : Obj) (h : x ≠ b) : m.set b o x = m x := by simp [Mem.set, h]
theorem Mem.set_set (m : Mem) (b : Nat) (o o' : Obj) : (m.set b o).set b o' = m.set b o' := by
  refine Mem.ext (funext fun x => ?_) rfl
  simp only [Mem.set]; split <;> rfl
theorem Mem.set_comm (m : Mem) {b c : Nat} (o o' : Obj) (h : b ≠ c) : (m.set b o).set c o' = (m.set c o').set b o := by
  refine Mem.ext (funext fun x => ?_) rfl
  simp only [Mem.set]
  by_cases h1 : x = b
  · subst h1; simp [h]
  · simp [h1]
theorem Mem.set_eq {m : Mem} {b : Nat} {o : Obj} (h : m b = some o) : m.set b o = m := by
  refine Mem.ext (funext fun x => ?_) rfl
  simp only [Mem.set]; split
  · rename_i e; rw [e, h]
  · rfl
theorem Mem.set_le {m m' : Mem} (h : m.le m') (b : Nat) (o : Obj) : (m.set b o).le (m'.set b o) := ⟨h.1, fun x p e => by
  simp only [Mem.set] at *; split
  · rename_i hx; rw [if_pos hx] at e; exact e
  · rename_i hx; rw [if_neg hx] at e; exact h.2 x p e⟩
theorem Mem.put_stop (m : Mem) (a : Addr) (v : Value) : (m.put a v).stop = m.stop := by
  unfold Mem.put; split <;> rfl
theorem Alike.refl (o : Obj) : Alike o o := .inl rfl
theorem Mem.cell_on {m : Mem} {w : World} (h : m.on w.heap) {a : Addr} {v : Value} (hv : m.cell a = some v) : w.cell? a = some v := by
  unfold Mem.cell at hv
  unfold World.cell?
  cases e : m a.block with
  | none => rw [e] at hv; cases hv
  | some o =>
    obtain ⟨o', h1, h2⟩ := h _ _ e
    rw [h1]; rw [e] at hv
    rcases h2 with rfl | ⟨c, el, k, c', f, rfl, rfl, _, h3⟩
    · cases o' <;> first | exact hv | cases hv
    · dsimp only at hv ⊢
      split at hv
      · cases hv
      · rename_i hs; rw [if_neg hs]; exact h3 _ _ hv
theorem Mem.cell_some {m : Mem} {a : Addr} {v : Value} (hv : m.cell a = some v) : ∃ c e f, m a.block = some (.cells c e f) := by
  unfold Mem.cell at hv
  cases e : m a.block with
  | none => rw [e] at hv; cases hv
  | some o => rw [e] at hv; cases o <;> first | exact ⟨_, _, _, rfl⟩ | cases hv
/-- What may be written is no block that is only read. -/
theorem Mem.open_of {m : Mem} {a : Addr} {v : Value} {o : Obj} (hv : m.cell a = some v) (hf : m.frz a = false) (ho : m a.block = some o) : ¬ RO o := by
  rintro ⟨c, e, rfl, _⟩
  unfold Mem.cell at hv
  unfold Mem.frz at hf
  rw [ho] at hv hf
  dsimp only at hv hf
  split at hv
  · cases hv
  · have := (Array.getElem?_eq_some_iff.1 hv).1
    simp at hf
    omega
theorem lt_of_on {m : Mem} {h : Array Obj} (hm : m.on h) {b : Nat} {o : Obj} (e : m b = some o) : b < h.size := by
  obtain ⟨o', h1, _⟩ := hm b o e
  exact (Array.getElem?_eq_some_iff.1 h1).1
theorem Mem.set_on {m : Mem} {h h' : Array Obj} (hm : m.on h) {b : Nat} {o : Obj} (hb : h'[b]? = some o) (hr : ∀ x, x ≠ b → ∀ o, h[x]? = some o → h'[x]? = some o) : (m.set b o).on h' := by
  intro x p e
  simp only [Mem.set] at e
  split at e
  · rename_i z; subst z; obtain rfl := Option.some.inj e; exact ⟨_, hb, .refl _⟩
  · rename_i z; obtain ⟨o', h1, h2⟩ := hm x p e; exact ⟨o', hr x z o' h1, h2⟩

/-- A value that one cell can hold. -/
def Value.flat : Value → Bool
  | .agg _ => false
  | .tuple _ => false
  | _ => true

/-- What a term of the model asks of a part of the heap, so that it ends as 'Q' says (or panics as 'Qp' says), whatever the tape answers. -/
def _root_.Go.Sem.wpm {α : Type} (P : Program) (Qp : Value → Mem → Prop) : Sem α → (α → Mem → Prop) → Mem → Prop
  | .pure a, Q, m => Q a m
  | .load md a k, Q, m => md = .plain ∧ (match m.cell a with | some v => (k v).wpm P Qp Q m | none => False)
  | .store md a v k, Q, m => md = .plain ∧ Value.flat v = true ∧ (m.cell a).isSome = true ∧ m.frz a = false ∧ k.wpm P Qp Q (m.put a v)
  | .new o k, Q, m => ∀ b, m b = none → (k b).wpm P Qp Q (m.set b o)
  | .shape r k, Q, m => m.bare r = true ∧ (match m r with | some (.cells c e _) => (k (some (e, c.size))).wpm P Qp Q m | some _ => (k none).wpm P Qp Q m | none => False)
  | .freeze _ _ _, _, _ => False
  | .frozen a k, Q, m => m.bare a.block = true ∧ (k false).wpm P Qp Q m
  | .getObj r k, Q, m => (match m r with | some (.cells ..) => False | some (.chan ..) => False | some o => (k o).wpm P Qp Q m | none => False)
  | .setObj r o k, Q, m => (match m r with | some (.cells ..) => False | some (.chan ..) => False | some _ => o.isChan = false ∧ k.wpm P Qp Q (m.set r o) | none => False)
  | .choose q k, Q, m => if q.forced then (k 0).wpm P Qp Q m else ∀ t, (k (q.cut t)).wpm P Qp Q m
  | .sys _ _, _, _ => False
  | .program k, Q, m => (k P).wpm P Qp Q m
  | .mark mk k, Q, m => mk = .noRoom ∧ k.wpm P Qp Q m
  | .halt (.panic v), _, m => Qp v m
  | .halt _, _, _ => False

/-- What may be written: block b from its cell 'off' on ('X': from which cell on each block may; or made since: from block s on). -/
def Wr (X : Nat → Option Nat) (s b off : Nat) : Prop := (∃ k, X b = some k ∧ k ≤ off) ∨ s ≤ b
theorem Wr.up {X : Nat → Option Nat} {s b i j : Nat} (h : Wr X s b i) (hij : i ≤ j) : Wr X s b j := h.imp (fun ⟨k, h1, h2⟩ => ⟨k, h1, Nat.le_trans h2 hij⟩) id
/-- An access that may be listed: of a block that is there; a write only where it may be. -/
def Ev (X : Nat → Option Nat) (s n : Nat) (e : Event) : Prop :=
  match e.loc with
  | .cell a => a.block < n ∧ e.sync = false ∧ (e.write = true → Wr X s a.block a.off)
  | .obj r => r < n ∧ e.sync = false ∧ (e.write = true → Wr X s r 0)
  | .mark mk => mk = .noRoom
  | _ => False
theorem Ev.mono {X : Nat → Option Nat} {s n n' : Nat} {e : Event} (h : Ev X s n e) (hn : n ≤ n') : Ev X s n' e := by
  unfold Ev at *
  split <;> simp_all <;> omega

/-- What a step of one's own does at most. -/
structure Gd (X : Nat → Option Nat) (s : Nat) (w w' : World) (es : Array Event) : Prop where
  os : w'.os = w.os
  output : w'.output = w.output
  tape : w'.tape = w.tape
  size : w.heap.size ≤ w'.heap.size
  frame : ∀ b, b < s → X b = none → w'.heap[b]? = w.heap[b]?
  low : ∀ b k, b < s → X b = some k → k ≠ 0 → ∀ c e f, w.heap[b]? = some (.cells c e f) → ∃ c', w'.heap[b]? = some (.cells c' e f) ∧ c'.size = c.size ∧ ∀ i < k, c'[i]? = c[i]?
  evs : ∀ e ∈ es, Ev X s w'.heap.size e
theorem Gd.refl (X : Nat → Option Nat) (s : Nat) (w : World) : Gd X s w w #[] := ⟨rfl, rfl, rfl, Nat.le_refl _, fun _ _ _ => rfl, fun _ _ _ _ _ c _ _ h => ⟨c, h, rfl, fun _ _ => rfl⟩, fun _ h => by simp at h⟩
theorem Gd.trans {X : Nat → Option Nat} {s : Nat} {a b c : World} {es es' : Array Event} (h : Gd X s a b es) (h' : Gd X s b c es') : Gd X s a c (es ++ es') :=
  ⟨h'.os.trans h.os, h'.output.trans h.output, h'.tape.trans h.tape, Nat.le_trans h.size h'.size, fun x hx hX => (h'.frame x hx hX).trans (h.frame x hx hX), fun x k hx hX hk c e f hc => by
    obtain ⟨c1, h1, h2, h3⟩ := h.low x k hx hX hk c e f hc
    obtain ⟨c2, h4, h5, h6⟩ := h'.low x k hx hX hk c1 e f h1
    exact ⟨c2, h4, h5.trans h2, fun i hi => (h6 i hi).trans (h3 i hi)⟩, fun e he => by
    rcases Array.mem_append.1 he with he | he
    · exact (h.evs e he).mono h'.size
    · exact h'.evs e he⟩

/-- All that the part holds is owned. -/
def Own (X : Nat → Option Nat) (s : Nat) (m : Mem) : Prop := ∀ b o, m b = some o → RO o ∨ Wr X s b (floor o)
theorem Own.le {X : Nat → Option Nat} {s : Nat} {m m' : Mem} (h : Own X s m') (hl : m.le m') : Own X s m := fun b o e => h b o (hl.2 b o e)

theorem own_set {X : Nat → Option Nat} {s : Nat} {m : Mem} (h : Own X s m) {b : Nat} {o : Obj} (hb : Wr X s b (floor o)) : Own X s (m.set b o) := fun x p e => by
  simp only [Mem.set] at e
  split at e
  · rename_i hx; obtain rfl := Option.some.inj e; rw [hx]; exact .inr hb
  · exact h x p e
theorem heap_setCell_ne (w : World) (a : Addr) (v : Value) {b : Nat} (h : b ≠ a.block) : (w.setCell a v).heap[b]? = w.heap[b]? := by
  unfold World.setCell; simp only [Array.getElem?_modify]; split
  · rename_i e; exact absurd e.symm h
  · rfl
theorem heap_setCell_size (w : World) (a : Addr) (v : Value) : (w.setCell a v).heap.size = w.heap.size := by
  unfold World.setCell; simp

/-- How a run ends, in the terms of a part of the heap. -/
def EndsAs {α : Type} (X : Nat → Option Nat) (s : Nat) (st : (Nat → Option Nat) → Nat → Bool → Goroutine → World → Prop) (Qp : Value → Mem → Prop) (Q : α → Mem → Prop) (w : World) (es : Array Event) : Result α → Prop
  | .ok a w' => ∃ m', Q a m' ∧ m'.on w'.heap ∧ Own X s m' ∧ m'.stop = st ∧ Gd X s w w' es
  | .halt (.panic v) w' => ∃ m', Qp v m' ∧ m'.on w'.heap ∧ Own X s m' ∧ m'.stop = st ∧ Gd X s w w' es
  | .halt _ _ => False

theorem EndsAs.after {α : Type} {X : Nat → Option Nat} {s : Nat} {st : (Nat → Option Nat) → Nat → Bool → Goroutine → World → Prop} {Qp : Value → Mem → Prop} {Q : α → Mem → Prop} {w w₁ : World} {es es' : Array Event} {r : Result α}
    (hg : Gd X s w w₁ es) (h : EndsAs X s st Qp Q w₁ es' r) : EndsAs X s st Qp Q w (es ++ es') r := by
  cases r with
  | ok a w' => obtain ⟨m', q, o, ow, hst, g⟩ := h; exact ⟨m', q, o, ow, hst, hg.trans g⟩
  | halt x w' =>
    cases x with
    | panic v => obtain ⟨m', q, o, ow, hst, g⟩ := h; exact ⟨m', q, o, ow, hst, hg.trans g⟩
    | _ => exact h

theorem runT_events {α : Type} (P : Program) (e : Sem α) (w : World) (es : Array Event) : ∃ es', e.runT P w es = (e.run P w, es ++ es') ∧ e.runT P w #[] = (e.run P w, es') := by
  have key : ∀ (e : Sem α) (w : World) (es : Array Event), (e.runT P w es).2 = es ++ (e.runT P w #[]).2 := by
    intro e
    induction e with
    | pure a => intro w es; simp [Sem.runT]
    | load m a k ih =>
      intro w es
      simp only [Sem.runT]
      split
      · rw [ih, ih _ _ (Array.push _ _)]; simp
      · split
        · rw [ih, ih _ _ (#[] ++ _)]; simp
        · simp
    | store m a v k ih =>
      intro w es
      cases v <;> simp only [Sem.runT] <;> (try (simp; done)) <;> (split <;> (try (split)) <;> first | (simp; done) | (rw [ih, ih _ (Array.push _ _)]; simp) | (rw [ih, ih _ (#[] ++ _)]; simp))
    | new o k ih => intro w es; simp only [Sem.runT]; exact ih _ _ _
    | shape r k ih => intro w es; simp only [Sem.runT]; exact ih _ _ _
    | freeze a n k ih => intro w es; simp only [Sem.runT]; exact ih _ _
    | frozen a k ih => intro w es; simp only [Sem.runT]; exact ih _ _ _
    | getObj r k ih =>
      intro w es
      simp only [Sem.runT]
      split
      · simp
      · rw [ih, ih _ _ (Array.push _ _)]; simp
      · simp
    | setObj r o k ih =>
      intro w es
      simp only [Sem.runT]
      split
      · simp
      · rw [ih, ih _ (Array.push _ _)]; simp
      · simp
    | choose q k ih =>
      intro w es
      simp only [Sem.runT]
      split
      · exact ih _ _ _
      · exact ih _ _ _
    | sys c k ih => intro w es; simp only [Sem.runT]; rw [ih, ih _ _ (Array.push _ _)]; simp
    | program k ih => intro w es; simp only [Sem.runT]; exact ih _ _ _
    | mark m k ih => intro w es; simp only [Sem.runT]; rw [ih, ih _ (Array.push _ _)]; simp
    | halt h => intro w es; simp [Sem.runT]
  refine ⟨(e.runT P w #[]).2, Prod.ext (Sem.runT_fst P e w es) (key e w es), Prod.ext (Sem.runT_fst P e w #[]) rfl⟩

/-- THE MODEL KEEPS TO IT. -/
theorem wpm_run {α : Type} {P : Program} {X : Nat → Option Nat} {s : Nat} {Qp : Value → Mem → Prop} (e : Sem α) :
    ∀ (Q : α → Mem → Prop) (m : Mem), e.wpm P Qp Q m → ∀ w : World, m.on w.heap → Own X s m → s ≤ w.heap.size →
      EndsAs X s m.stop Qp Q w (e.runT P w #[]).2 (e.run P w) := by
  induction e with
  | pure a => exact fun Q m h w hm ho _ => ⟨m, h, hm, ho, rfl, Gd.refl X s w⟩
  | load md a k ih =>
    intro Q m h w hm ho hs
    simp only [Sem.wpm] at h
    obtain ⟨rfl, h⟩ := h
    cases hc : m.cell a with
    | none => rw [hc] at h; exact h.elim
    | some v =>
      rw [hc] at h
      have hw := Mem.cell_on hm hc
      obtain ⟨c, el, f, hblk⟩ := Mem.cell_some hc
      simp only [Sem.runT, Sem.run, hw]
      obtain ⟨es', e1, e2⟩ := runT_events P (k v) w (#[].push ⟨.cell a, false, false⟩)
      have := ih v Q m h w hm ho hs
      rw [e2] at this
      rw [show (Mode.plain == Mode.atomic) = false from rfl, e1]
      refine EndsAs.after (w₁ := w) ⟨rfl, rfl, rfl, Nat.le_refl _, fun _ _ _ => rfl, fun _ _ _ _ _ c _ _ h => ⟨c, h, rfl, fun _ _ => rfl⟩, fun e he => ?_⟩ this
      simp only [List.push_toArray, List.nil_append, List.mem_toArray, List.mem_singleton] at he
      subst he
      exact ⟨lt_of_on hm hblk, rfl, fun z => by cases z⟩
  | store md a v k ih =>
    intro Q m h w hm ho hs
    obtain ⟨rfl, hv, hc, hf, h⟩ := h
    obtain ⟨v0, hc⟩ := Option.isSome_iff_exists.1 hc
    have hw := Mem.cell_on hm hc
    obtain ⟨c, el, f, hblk⟩ := Mem.cell_some hc
    have hnro := Mem.open_of hc hf hblk
    have hspot : a.spot.isSome = false ∧ c[a.off]? = some v0 := by
      unfold Mem.cell at hc
      rw [hblk] at hc
      dsimp only at hc
      split at hc
      · cases hc
      · rename_i z; exact ⟨by simpa using z, hc⟩
    have hfl : floor (.cells c el f) ≤ a.off := by
      unfold Mem.frz at hf
      rw [hblk] at hf
      obtain ⟨lo, hi⟩ := f
      unfold floor
      split
      · rename_i z; cases z; simpa using hf
      · exact Nat.zero_le _
    have hown := ((ho _ _ hblk).resolve_left hnro)
    have hput : m.put a v = m.set a.block (.cells (c.setIfInBounds a.off v) el f) := by unfold Mem.put; rw [hblk, hspot.1]; rfl
    have hheap : ∃ c' f', w.heap[a.block]? = some (.cells c' el f') ∧ w.frozen? a = false ∧ Alike (.cells (c.setIfInBounds a.off v) el f) (.cells (c'.setIfInBounds a.off v) el f') := by
      obtain ⟨o', h1, h2⟩ := hm _ _ hblk
      rcases h2 with rfl | ⟨c1, e1, k1, c', f2, h3, rfl, h5, h4⟩
      · refine ⟨c, f, h1, ?_, .refl _⟩
        unfold World.frozen?; rw [h1]
        unfold Mem.frz at hf; rw [hblk] at hf; exact hf
      · cases h3
        obtain rfl : f2 = (0, 0) := h5.2.resolve_right fun z => hnro ⟨c, el, by rw [← z], by rw [← z]; exact h5.1⟩
        refine ⟨c', (0, 0), h1, ?_, 
          .inr ⟨_, el, k1, _, (0, 0), rfl, rfl, ⟨h5.1, .inl rfl⟩, fun i u hu => ?_⟩⟩
        · unfold World.frozen?; rw [h1]; simp
        · by_cases e : a.off = i
          · subst e
            have hlt := (Array.getElem?_eq_some_iff.1 hspot.2).1
            have hlt' := (Array.getElem?_eq_some_iff.1 (h4 _ _ hspot.2)).1
            rw [Array.getElem?_setIfInBounds_self_of_lt hlt] at hu
            rw [Array.getElem?_setIfInBounds_self_of_lt hlt']; exact hu
          · rw [Array.getElem?_setIfInBounds_ne e] at hu ⊢; exact h4 _ _ hu
    obtain ⟨c', f', hh, hfz, hal⟩ := hheap
    have hset : (w.setCell a v).heap[a.block]? = some (.cells (c'.setIfInBounds a.off v) el f') := by
      unfold World.setCell
      simp only [Array.getElem?_modify, if_true, hh]
      simp [hspot.1]
    have hon : (m.put a v).on (w.setCell a v).heap := by
      rw [hput]
      intro x p e
      simp only [Mem.set] at e
      split at e
      · rename_i z; subst z; obtain rfl := Option.some.inj e; exact ⟨_, hset, hal⟩
      · rename_i z; obtain ⟨o', h1, h2⟩ := hm x p e; exact ⟨o', by rw [heap_setCell_ne w a v z]; exact h1, h2⟩
    have hrun : (Sem.store Mode.plain a v k).runT P w #[] = k.runT P (w.setCell a v) (#[].push ⟨.cell a, true, false⟩) := by
      cases v <;> first | (simp only [Sem.runT, hw, hfz]; rfl) | (cases hv)
    have hrun' : (Sem.store Mode.plain a v k).run P w = k.run P (w.setCell a v) := by
      cases v <;> first | (simp only [Sem.run, hw, hfz]; rfl) | (cases hv)
    rw [hrun, hrun']
    obtain ⟨es', e1, e2⟩ := runT_events P k (w.setCell a v) (#[].push ⟨.cell a, true, false⟩)
    have := ih Q (m.put a v) h (w.setCell a v) hon (by rw [hput]; exact own_set ho (by obtain ⟨lo, hi⟩ := f; cases lo <;> exact hown)) (by rw [heap_setCell_size]; exact hs)
    rw [e2, Mem.put_stop] at this
    rw [e1]
    refine EndsAs.after (w₁ := w.setCell a v) ⟨rfl, rfl, rfl, Nat.le_of_eq (heap_setCell_size w a v).symm, fun b hb hX => heap_setCell_ne w a v ?_, fun b kk hb hX hk c1 e1 f1 hc1 => ?_, fun e he => ?_⟩ this
    · intro hba; subst hba; rcases hown with ⟨k, z, _⟩ | z
      · rw [hX] at z; cases z
      · omega
    · by_cases hba : b = a.block
      · subst hba
        rw [hh] at hc1
        cases hc1
        refine ⟨_, hset, by simp, fun i hi => Array.getElem?_setIfInBounds_ne fun z => ?_⟩
        rcases hown with ⟨k, z1, z2⟩ | z1
        · rw [hX] at z1; cases z1; omega
        · omega
      · exact ⟨c1, by rw [heap_setCell_ne w a v hba]; exact hc1, rfl, fun _ _ => rfl⟩
    · simp only [List.push_toArray, List.nil_append, List.mem_toArray, List.mem_singleton] at he
      subst he
      refine ⟨?_, rfl, fun _ => hown.up hfl⟩
      rw [heap_setCell_size]; exact lt_of_on hm hblk
  | new o k ih =>
    intro Q m h w hm ho hs
    have hnone : m w.heap.size = none := by
      cases e : m w.heap.size with
      | none => rfl
      | some p => exact absurd (lt_of_on hm e) (Nat.lt_irrefl _)
    have := ih w.heap.size Q _ (h _ hnone) { w with heap := w.heap.push o } (Mem.set_on hm (by simp) fun x hx o ho' => by
        show (w.heap.push _)[x]? = _
        rw [Array.getElem?_push, if_neg hx]; exact ho') (own_set ho (.inr hs)) (by simp; omega)
    simp only [Sem.runT, Sem.run]
    have g : Gd X s w { w with heap := w.heap.push o } #[] := ⟨rfl, rfl, rfl, by simp, fun b hb _ => by
      show (w.heap.push o)[b]? = _
      rw [Array.getElem?_push, if_neg (by omega)], fun b k hb _ _ c e f hc => ⟨c, by
      show (w.heap.push o)[b]? = _
      rw [Array.getElem?_push, if_neg (by omega)]; exact hc, rfl, fun _ _ => rfl⟩, fun _ z => by simp at z⟩
    have h2 := EndsAs.after g this
    have h3 : (m.set w.heap.size o).stop = m.stop := rfl
    rw [h3] at h2
    simpa using h2
  | shape r k ih =>
    intro Q m h w hm ho hs
    simp only [Sem.wpm] at h
    simp only [Sem.runT, Sem.run]
    obtain ⟨hbare, h⟩ := h
    cases hr : m r with
    | none => rw [hr] at h; exact h.elim
    | some p =>
      rw [hr] at h
      obtain ⟨o', h1, h2⟩ := hm _ _ hr
      rcases h2 with rfl | ⟨c, e, k1, c', f2, rfl, rfl, h5, _⟩
      · have hsh : w.shape? r = (match some o' with | some (.cells c e _) => some (e, c.size) | _ => none) := by
          unfold World.shape?; rw [← h1]; rfl
        rw [hsh]
        cases o' <;> exact ih _ Q m h w hm ho hs
      · unfold Mem.bare at hbare
        rw [hr] at hbare
        simp at hbare
        exact absurd hbare h5.1
  | freeze a n k ih => intro Q m h; exact h.elim
  | frozen a k ih =>
    intro Q m h w hm ho hs
    simp only [Sem.wpm] at h
    simp only [Sem.runT, Sem.run]
    obtain ⟨hb, h⟩ := h
    have hz : w.frozen? a = false := by
      unfold Mem.bare at hb
      cases hr : m a.block with
      | none => rw [hr] at hb; cases hb
      | some p =>
        rw [hr] at hb
        obtain ⟨o', h1, h2⟩ := hm _ _ hr
        unfold World.frozen?; rw [h1]
        rcases h2 with rfl | ⟨c, e, k1, c', f2, rfl, rfl, h5, _⟩
        · cases o' with
          | cells c e f => obtain ⟨lo, hi⟩ := f; simp at hb; simp [hb]
          | _ => rfl
        · simp at hb; exact absurd hb h5.1
    rw [hz]
    exact ih _ Q m h w hm ho hs
  | getObj r k ih =>
    intro Q m h w hm ho hs
    simp only [Sem.wpm] at h
    cases hr : m r with
    | none => rw [hr] at h; exact h.elim
    | some p =>
      rw [hr] at h
      have hw : (∀ c e f, p ≠ .cells c e f) → w.heap[r]? = some p := fun hn => by
        obtain ⟨o', h1, h2⟩ := hm _ _ hr
        rcases h2 with rfl | ⟨c, e, k1, c', f2, rfl, rfl, h5, _⟩
        · exact h1
        · exact absurd rfl (hn _ _ _)
      have main : ∀ p, w.heap[r]? = some p → (p.isChan = false) → (∀ c e f, p ≠ .cells c e f) → (k p).wpm P Qp Q m → EndsAs X s m.stop Qp Q w ((Sem.getObj r k).runT P w #[]).2 ((Sem.getObj r k).run P w) := by
        intro p hw hch hcl h
        have e0 : (Sem.getObj r k).runT P w #[] = (k p).runT P w (#[].push ⟨.obj r, false, false⟩) := by
          cases p <;> first | exact absurd rfl (hcl _ _ _) | (simp only [Sem.runT, hw]; done) | (simp only [Sem.runT, hw]; rfl) | cases hch
        have e0' : (Sem.getObj r k).run P w = (k p).run P w := by
          cases p <;> first | exact absurd rfl (hcl _ _ _) | (simp only [Sem.run, hw]; done) | (simp only [Sem.run, hw]; rfl)
        rw [e0, e0']
        obtain ⟨es', e1, e2⟩ := runT_events P (k p) w (#[].push ⟨.obj r, false, false⟩)
        have := ih p Q m h w hm ho hs
        rw [e2] at this
        rw [e1]
        refine EndsAs.after (w₁ := w) ⟨rfl, rfl, rfl, Nat.le_refl _, fun _ _ _ => rfl, fun _ _ _ _ _ c _ _ h => ⟨c, h, rfl, fun _ _ => rfl⟩, fun e he => ?_⟩ this
        simp only [List.push_toArray, List.nil_append, List.mem_toArray, List.mem_singleton] at he
        subst he
        exact ⟨lt_of_on hm hr, rfl, fun z => by cases z⟩
      cases p <;> first | exact h.elim | exact main _ (hw (fun _ _ _ z => by cases z)) rfl (fun _ _ _ z => by cases z) h
  | setObj r o k ih =>
    intro Q m h w hm ho hs
    simp only [Sem.wpm] at h
    cases hr : m r with
    | none => rw [hr] at h; exact h.elim
    | some p =>
      rw [hr] at h
      have hw : (∀ c e f, p ≠ .cells c e f) → w.heap[r]? = some p := fun hn => by
        obtain ⟨o', h1, h2⟩ := hm _ _ hr
        rcases h2 with rfl | ⟨c, e, k1, c', f2, rfl, rfl, h5, _⟩
        · exact h1
        · exact absurd rfl (hn _ _ _)
      have hown : (∀ c e f, p ≠ .cells c e f) → Wr X s r 0 := fun hn => by
        have := (ho _ _ hr).resolve_left fun ⟨c, e, z, _⟩ => hn _ _ _ z
        cases p <;> first | exact absurd rfl (hn _ _ _) | exact this
      have main : ∀ p', w.heap[r]? = some p' → (∀ c e f, p' ≠ .cells c e f) → Wr X s r 0 → (o.isChan = false ∧ k.wpm P Qp Q (m.set r o)) → EndsAs X s m.stop Qp Q w ((Sem.setObj r o k).runT P w #[]).2 ((Sem.setObj r o k).run P w) := by
        rintro p hw hcl hown ⟨hch, h⟩
        have e0 : (Sem.setObj r o k).runT P w #[] = k.runT P { w with heap := w.heap.setIfInBounds r o } (#[].push ⟨.obj r, true, false⟩) := by
          cases p <;> first | exact absurd rfl (hcl _ _ _) | (simp only [Sem.runT, hw, hch]; done) | (simp only [Sem.runT, hw, hch]; rfl)
        have e0' : (Sem.setObj r o k).run P w = k.run P { w with heap := w.heap.setIfInBounds r o } := by
          cases p <;> first | exact absurd rfl (hcl _ _ _) | (simp only [Sem.run, hw]; done) | (simp only [Sem.run, hw]; rfl)
        rw [e0, e0']
        obtain ⟨es', e1, e2⟩ := runT_events P k { w with heap := w.heap.setIfInBounds r o } (#[].push ⟨.obj r, true, false⟩)
        have := ih Q (m.set r o) h { w with heap := w.heap.setIfInBounds r o } (Mem.set_on hm (Array.getElem?_setIfInBounds_self_of_lt (lt_of_on hm hr)) fun x hx o' ho' => by
            show (w.heap.setIfInBounds r o)[x]? = some o'
            rw [Array.getElem?_setIfInBounds_ne (fun z => hx z.symm)]; exact ho') (own_set ho (hown.up (Nat.zero_le _))) (by simp; exact hs)
        rw [e2] at this
        rw [e1]
        refine EndsAs.after (w₁ := { w with heap := w.heap.setIfInBounds r o }) ⟨rfl, rfl, rfl, by simp, fun b hb hX => ?_, fun b kk hb hX hk c1 e1 f1 hc1 => ?_, fun e he => ?_⟩ this
        · show (w.heap.setIfInBounds r o)[b]? = _
          refine Array.getElem?_setIfInBounds_ne fun z => ?_
          subst z
          rcases hown with ⟨k, z, _⟩ | z
          · rw [hX] at z; cases z
          · omega
        · refine ⟨c1, ?_, rfl, fun _ _ => rfl⟩
          show (w.heap.setIfInBounds r o)[b]? = _
          rw [Array.getElem?_setIfInBounds_ne fun z => ?_]
          · exact hc1
          · subst z
            rw [hw] at hc1
            exact hcl _ _ _ (Option.some.inj hc1)
        · simp only [List.push_toArray, List.nil_append, List.mem_toArray, List.mem_singleton] at he
          subst he
          refine ⟨?_, rfl, fun _ => hown⟩
          show r < (w.heap.setIfInBounds r o).size
          simp; exact lt_of_on hm hr
      cases p <;> first | exact h.elim | exact main _ (hw (fun _ _ _ z => by cases z)) (fun _ _ _ z => by cases z) (hown (fun _ _ _ z => by cases z)) h
  | choose q k ih =>
    intro Q m h w hm ho hs
    simp only [Sem.wpm] at h
    simp only [Sem.runT, Sem.run]
    split
    · rename_i hq; rw [if_pos hq] at h; exact ih _ Q m h w hm ho hs
    · rename_i hq; rw [if_neg hq] at h
      have := ih _ Q m (h (w.tape w.drawn q)) { w with drawn := w.drawn + 1 } hm ho hs
      have g : Gd X s w { w with drawn := w.drawn + 1 } #[] := ⟨rfl, rfl, rfl, Nat.le_refl _, fun _ _ _ => rfl, fun _ _ _ _ _ c _ _ h => ⟨c, h, rfl, fun _ _ => rfl⟩, fun _ z => by simp at z⟩
      have h2 := EndsAs.after g this
      simpa using h2
  | sys c k ih => intro Q m h; exact h.elim
  | program k ih => intro Q m h w hm ho hs; exact ih P Q m h w hm ho hs
  | mark mk k ih =>
    intro Q m h w hm ho hs
    obtain ⟨rfl, h⟩ := h
    simp only [Sem.runT, Sem.run]
    obtain ⟨es', e1, e2⟩ := runT_events P k w (#[].push ⟨.mark .noRoom, false, true⟩)
    have := ih Q m h w hm ho hs
    rw [e2] at this
    rw [e1]
    refine EndsAs.after (w₁ := w) ⟨rfl, rfl, rfl, Nat.le_refl _, fun _ _ _ => rfl, fun _ _ _ _ _ c _ _ h => ⟨c, h, rfl, fun _ _ => rfl⟩, fun e he => ?_⟩ this
    simp only [List.push_toArray, List.nil_append, List.mem_toArray, List.mem_singleton] at he
    subst he
    exact rfl
  | halt x =>
    intro Q m h w hm ho _
    cases x with
    | panic v => exact ⟨m, h, hm, ho, rfl, Gd.refl X s w⟩
    | _ => exact h.elim

theorem wpm_bind {α β : Type} {P : Program} {Qp : Value → Mem → Prop} (e : Sem α) (f : α → Sem β) (Q : β → Mem → Prop) :
    ∀ m, (e.bind f).wpm P Qp Q m = e.wpm P Qp (fun a m' => (f a).wpm P Qp Q m') m := by
  induction e with
  | pure a => intro m; rfl
  | load md a k ih => intro m; simp only [Sem.bind, Sem.wpm]; congr 1; cases m.cell a <;> simp [ih]
  | store md a v k ih => intro m; simp only [Sem.bind, Sem.wpm, ih]
  | new o k ih => intro m; simp only [Sem.bind, Sem.wpm, ih]
  | shape r k ih => intro m; simp only [Sem.bind, Sem.wpm, ih]
  | freeze a n k ih => intro m; rfl
  | frozen a k ih => intro m; simp only [Sem.bind, Sem.wpm, ih]
  | getObj r k ih => intro m; simp only [Sem.bind, Sem.wpm, ih]
  | setObj r o k ih => intro m; simp only [Sem.bind, Sem.wpm, ih]
  | choose q k ih => intro m; simp only [Sem.bind, Sem.wpm, ih]
  | sys c k ih => intro m; rfl
  | program k ih => intro m; simp only [Sem.bind, Sem.wpm, ih]
  | mark mk k ih => intro m; simp only [Sem.bind, Sem.wpm, ih]
  | halt x => intro m; cases x <;> rfl
theorem wpm_mono {α : Type} {P : Program} {Qp Qp' : Value → Mem → Prop} (hp : ∀ v m, Qp v m → Qp' v m) (e : Sem α) :
    ∀ {Q Q' : α → Mem → Prop}, (∀ a m, Q a m → Q' a m) → ∀ {m}, e.wpm P Qp Q m → e.wpm P Qp' Q' m := by
  induction e with
  | pure a => exact fun h _ q => h _ _ q
  | load md a k ih => intro Q Q' h m q; simp only [Sem.wpm] at q ⊢; refine ⟨q.1, ?_⟩; have q := q.2; cases hc : m.cell a <;> simp only [hc] at q ⊢; exact ih _ h q
  | store md a v k ih => exact fun h _ q => ⟨q.1, q.2.1, q.2.2.1, q.2.2.2.1, ih h q.2.2.2.2⟩
  | new o k ih => exact fun h _ q b hb => ih b h (q b hb)
  | shape r k ih =>
    intro Q Q' h m q; simp only [Sem.wpm] at q ⊢
    refine ⟨q.1, ?_⟩
    have q := q.2
    cases hc : m r with
    | none => simp only [hc] at q
    | some p => simp only [hc] at q ⊢; cases p <;> exact ih _ h q
  | freeze a n k ih => exact fun _ _ q => q
  | frozen a k ih => exact fun h _ q => ⟨q.1, ih _ h q.2⟩
  | getObj r k ih =>
    intro Q Q' h m q; simp only [Sem.wpm] at q ⊢
    cases hc : m r with
    | none => simp only [hc] at q
    | some p => simp only [hc] at q ⊢; cases p <;> first | exact q | exact ih _ h q
  | setObj r o k ih =>
    intro Q Q' h m q; simp only [Sem.wpm] at q ⊢
    cases hc : m r with
    | none => simp only [hc] at q
    | some p => simp only [hc] at q ⊢; cases p <;> first | exact q | exact ⟨q.1, ih h q.2⟩
  | choose q k ih => intro Q Q' h m x; simp only [Sem.wpm] at x ⊢; split <;> rename_i hq <;> simp only [hq] at x; exact ih _ h x; exact fun t => ih _ h (x t)
  | sys c k ih => exact fun _ _ q => q
  | program k ih => exact fun h _ q => ih P h q
  | mark mk k ih => exact fun h _ q => ⟨q.1, ih h q.2⟩
  | halt x => intro Q Q' h m q; cases x <;> first | exact hp _ _ q | exact q
end Go.Sp
