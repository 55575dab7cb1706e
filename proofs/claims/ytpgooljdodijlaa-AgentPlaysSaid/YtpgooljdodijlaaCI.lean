/-
  What is proved: 'append' over a part of the heap, and operations that leave one of several things. Conditions: those that each theorem names (the slice is held from its block's begin, the block is that slice's alone).
-/
import Derived.Test.YtpgooljdodijlaaCH
import Derived.Laws.Append
namespace Go.Sp
open Go.Conc
section
variable {P : Program}
/-- The operation yields some value, and leaves the part of the heap, as 'R' says. -/
def Gives (P : Program) (o : Oper) (ρ : Operand → Value) (m : Mem) (R : Value → Mem → Prop) : Prop :=
  (execOp ρ o).wpm P (fun _ _ => False) (fun nx m' => ∃ v, nx = Next.value v ∧ R v m') m
theorem Gives.wps {o : Oper} {a : Act} {m : Mem} {R : Value → Mem → Prop} {K : Act → Mem → Prop} {Qp : List PanicEntry → Act → Mem → Prop} (h : Gives P o a.eval m R) (hk : ∀ v m', R v m' → K (a.put o.dst v) m') : o.wps P a K Qp m :=
  wpm_mono (fun _ _ z => z.elim) _ (fun nx m'' ⟨v, h1, h2⟩ => by subst h1; exact hk v m'' h2) h
section
variable {ops : Array Oper} {Q : Exit → Act → Mem → Prop} {m : Mem} {n : Nat} {base : Nat → Value} {rs : List (Nat × Value)} {ds : List Deferred} {rest : List Oper} {op : Op} {dst : Option Tmp} {ty : TypeId} {pos : String} {after : Array Edge}
theorem l_g {R : Value → Mem → Prop} (hy : Gives P ⟨dst, op, ty, pos, after, none⟩ (ev base rs) m R) (h : ∀ v m', R v m' → OpsE P ops Q rest n base (outE dst v rs) ds m') : OpsE P ops Q (⟨dst, op, ty, pos, after, none⟩ :: rest) n base rs ds m :=
  l_w fun hd a ha => ⟨rfl, (ha.eval ▸ hy).wps fun v m' r hr => h v m' r hr _ (ha.put hd v)⟩
end
/-- A slice that is held from its block's begin, the block its own: its elements' cells; its block, if it has one. -/
def SlB (m : Mem) (e : TypeId) (sz : Nat) (v : Value) (n : Nat) (bo : Option Nat) (l : List Value) : Prop :=
  (bo = none ∧ v = .slice none 0 0 ∧ n = 0 ∧ l = []) ∨
  ∃ b c rest, bo = some b ∧ v = .slice (some ⟨b, 0, none⟩) n c ∧ m b = some (.cells (l ++ rest).toArray e) ∧ l.length = n * sz ∧ (l ++ rest).length = c * sz ∧ n ≤ c
/-- A slice that can be read: its elements' cells. -/
def SlR (m : Mem) (sz : Nat) (x : Value) (k : Nat) (l : List Value) : Prop :=
  (∃ ab c, x = .slice ab k c ∧ k = 0 ∧ l = []) ∨
  ∃ b o c xc xe xz, x = .slice (some ⟨b, o, none⟩) k c ∧ m b = some (.cells xc xe xz) ∧ o + k * sz ≤ xc.size ∧ (xc.toList.drop o).take (k * sz) = l
theorem SlB.read {m : Mem} {e : TypeId} {sz n : Nat} {v : Value} {bo : Option Nat} {l : List Value} (h : SlB m e sz v n bo l) : SlR m sz v n l := by
  rcases h with ⟨_, rfl, rfl, rfl⟩ | ⟨b, c, rest, _, rfl, h1, h2, h3, h4⟩
  · exact .inl ⟨none, 0, rfl, rfl, rfl⟩
  · refine .inr ⟨b, 0, c, _, e, (0, 0), rfl, h1, ?_, ?_⟩
    · have := Nat.mul_le_mul_right sz h4
      simp at h3 ⊢; omega
    · simp [← h2]
theorem wpm_firstCells {m : Mem} {sz k : Nat} {x : Value} {l : List Value} (h : SlR m sz x k l) {Qp : Value → Mem → Prop} (Q : Array Value → Mem → Prop) : (Builtin.firstCells sz k x).wpm P Qp Q m = Q l.toArray m := by
  rcases h with ⟨ab, c, rfl, rfl, rfl⟩ | ⟨b, o, c, xc, xe, xz, rfl, h1, h2, h3⟩
  · cases ab with
    | none => simp [Builtin.firstCells, wpm_pureM]
    | some a => simp [Builtin.firstCells, loadCells, loadCellsFrom, wpm_pureM]
  · simp only [Builtin.firstCells, loadCells]
    rw [wpm_loadCells (k * sz) 0 #[] (row_block h1 o (k * sz) 0 (by omega))]
    simp [h3]
/-- What an append leaves. -/
def Appended (m : Mem) (e : TypeId) (sz n k : Nat) (bo : Option Nat) (l ln : List Value) (v : Value) (m' : Mem) : Prop :=
  (bo = none ∧ l = [] ∧ ln = [] ∧ v = .slice none 0 0 ∧ m' = m) ∨
  ∃ b c rest, v = .slice (some ⟨b, 0, none⟩) (n + k) c ∧ m' = m.set b (.cells (l ++ ln ++ rest).toArray e) ∧ (l ++ ln ++ rest).length = c * sz ∧ n + k ≤ c ∧ (bo = some b ∨ m b = none)
theorem Appended.slB {m m' : Mem} {e : TypeId} {sz n k : Nat} {bo : Option Nat} {l ln : List Value} {v : Value} (h : Appended m e sz n k bo l ln v m') (hl : l.length = n * sz) (hk : ln.length = k * sz) (hsz : sz ≠ 0) : ∃ bo', SlB m' e sz v (n + k) bo' (l ++ ln) := by
  rcases h with ⟨_, rfl, rfl, rfl, rfl⟩ | ⟨b, c, rest, rfl, rfl, h1, h2, _⟩
  · have e1 : n = 0 := (Nat.mul_eq_zero.1 hl.symm).resolve_right hsz
    have e2 : k = 0 := (Nat.mul_eq_zero.1 hk.symm).resolve_right hsz
    exact ⟨none, .inl ⟨rfl, rfl, by omega, rfl⟩⟩
  · exact ⟨some b, .inr ⟨b, c, rest, rfl, rfl, by rw [Mem.set_same], by simp [hl, hk, Nat.add_mul], h1, h2⟩⟩
theorem splice_mid : ∀ (new l rest : List Value), new.length ≤ rest.length → splice (l ++ rest).toArray l.length new = (l ++ new ++ rest.drop new.length).toArray := by
  intro new
  induction new with
  | nil => intro l rest _; simp [splice]
  | cons x new ih =>
    intro l rest h
    cases rest with
    | nil => simp at h
    | cons r rest =>
      simp only [splice]
      have e1 : ((l ++ r :: rest).toArray).setIfInBounds l.length x = ((l ++ [x]) ++ rest).toArray := by
        apply Array.ext'
        simp
      rw [e1]
      have := ih (l ++ [x]) rest (by simpa using h)
      rw [List.length_append, List.length_singleton] at this
      rw [this]
      simp
theorem gives_append {ρ : Operand → Value} {m : Mem} {dst : Option Tmp} {ty : TypeId} {pos : String} {after : Array Edge} {g : Option (Nat × Bool)} {s x : Operand} {ats : Array TypeId} {t tx e ex : TypeId} {sz by_ n k : Nat} {z v xv : Value} {bo : Option Nat} {l ln : List Value}
    (hs : ρ s = v) (hx : ρ x = xv) (ha : ats[0]? = some t) (ha1 : ats[1]? = some tx) (ht : elemOfS P t = some e) (htx : elemOfS P tx = some ex) (hsz : szOf P e = some sz) (hb : byOfS P e = some by_) (hz : zeroOf P e = some z) (hzc : z.cells.size = sz)
    (hv : SlB m e sz v n bo l) (hxv : SlR m sz xv k ln) (hf : ln.all Value.flat = true) (hbig : (n + k) * by_ ≤ 140737488355328) (hbig2 : n + k < 2 ^ 63 ∧ by_ ≠ 0) :
    Gives P ⟨dst, .call ⟨.builtin .append, #[s, x], ats⟩, ty, pos, after, g⟩ ρ m (Appended m e sz n k bo l ln) := by
  obtain ⟨i, hi, rfl⟩ := Option.map_eq_some_iff.1 hb
  have hlx : ∀ Q : Nat → Mem → Prop, (Builtin.lenOf xv).wpm P (fun _ _ => False) Q m = Q k m := fun Q => by
    rcases hxv with ⟨ab, c, rfl, rfl, rfl⟩ | ⟨b, o, c, xc, xe, xz, rfl, _⟩ <;> rfl
  have hln : ln.length = k * sz := by
    rcases hxv with ⟨ab, c, rfl, rfl, rfl⟩ | ⟨b, o, c, xc, xe, xz, rfl, _, h2, h3⟩
    · simp
    · rw [← h3]; simp; omega
  have hvs : ∃ base c, v = .slice base n c ∧ n ≤ c := by
    rcases hv with ⟨_, rfl, rfl, rfl⟩ | ⟨b, c, rest, _, rfl, _, _, _, h4⟩
    · exact ⟨none, 0, rfl, Nat.le_refl _⟩
    · exact ⟨_, c, rfl, h4⟩
  obtain ⟨vb, c, hve, hnc⟩ := hvs
  have h0 : (#[s, x].map ρ)[0]? = some (.slice vb n c) := by simp [hs, hve]
  have h1 : (#[s, x].map ρ)[1]? = some xv := by simp [hx]
  simp only [Gives, execOp, resolve, wpm_bindM, wpm_pureM, invoke, builtin, Builtin.append_, ha, ha1, h0, h1, wpm_underlying (elemOfS_spec ht), wpm_underlying (elemOfS_spec htx), wpm_sizeOf hsz, Bool.false_eq_true, if_false, hlx, Bool.not_false, if_true]
  by_cases hin : n + k ≤ c
  · rw [if_pos hin]
    simp only [wpm_bindM, wpm_firstCells hxv]
    rcases hv with ⟨rfl, h2, rfl, rfl⟩ | ⟨b, c', rest, rfl, h2, h3, h4, h5, h6⟩
    · rw [hve] at h2
      cases h2
      have hk0 : k = 0 := by omega
      subst hk0
      have : ln = [] := List.eq_nil_of_length_eq_zero (by simpa using hln)
      subst this
      simp only [wpm_pureM]
      exact ⟨_, rfl, .inl ⟨rfl, rfl, rfl, rfl, rfl⟩⟩
    · rw [hve] at h2
      cases h2
      have hlay := lay_block (e := e) (b := b) ln (n * sz) 0 h3 hf (by
        have := Nat.mul_le_mul_right sz hin
        rw [Nat.add_mul] at this
        simp only [List.size_toArray]; rw [h5, hln]; omega)
      simp only [wpm_bindM, add_off, Nat.zero_add, wpm_storeCells _ 0 hlay.1, wpm_pureM]
      refine ⟨_, rfl, .inr ⟨b, c, rest.drop ln.length, rfl, ?_, ?_, hin, .inl rfl⟩⟩
      · rw [hlay.2, Nat.add_zero, ← h4, splice_mid]
        have := Nat.mul_le_mul_right sz hin
        rw [Nat.add_mul] at this
        simp only [List.length_append] at h5
        omega
      · have := Nat.mul_le_mul_right sz hin
        rw [Nat.add_mul] at this
        simp only [List.length_append, List.length_drop] at h5 ⊢
        omega
  · rw [if_neg hin]
    have hg := growslice_fits (need := n + k) (old := c) (bytes := i.bytes) (by omega) hbig
    have g1 : ¬ (Builtin.nextslicecap (n + k) c * i.bytes > 2 ^ 48) := by omega
    have g2 : ¬ (((n + k : Nat) : Int) > IntKind.i64.max) := by
      have := hbig2.1
      simp [IntKind.max, IntKind.signed, IntKind.bits]; omega
    simp only [wpm_bindM, wpm_typeInfo hi, g1, g2, false_and, if_false, wpm_pureM]
    refine (show (if (Question.appendCap (n + k) c e).forced = true then _ else ∀ t, _) from ?_)
    rw [if_neg (by simp [Question.forced])]
    intro tt
    generalize hcap : (Question.appendCap (n + k) c e).cut tt = cap
    have hcap1 : n + k ≤ cap := by rw [← hcap]; simp [Question.cut]
    refine wpm_askRoom ?_
    rw [← hve]
    simp only [wpm_firstCells hv.read, wpm_firstCells hxv, wpm_zeroValue hz, newRow, wpm_bindM, wpm_newObj, wpm_pureM]
    intro b hb'
    refine ⟨_, rfl, .inr ⟨b, cap, (Builtin.zeroCells z.cells (cap - (n + k))).toList, rfl, ?_, ?_, hcap1, .inr hb'⟩⟩
    · congr 2
      apply Array.ext'
      simp
    · have hl : l.length = n * sz := by
        rcases hv with ⟨_, _, rfl, rfl⟩ | ⟨_, _, _, _, _, _, h4, _⟩
        · simp
        · exact h4
      simp only [List.length_append, hl, hln, Builtin.zeroCells, Array.length_toList, Array.size_map, Array.size_range, hzc]
      rw [← Nat.add_mul, ← Nat.add_mul]
      congr 1
      omega
end
/-- An element of a slice that is held. -/
theorem SlB.at {m : Mem} {e : TypeId} {v : Value} {n : Nat} {bo : Option Nat} {l : List Value} (h : SlB m e 1 v n bo l) (hn : 0 < n) : ∃ b c rest, bo = some b ∧ v = .slice (some ⟨b, 0, none⟩) n c ∧ m b = some (.cells (l ++ rest).toArray e) ∧ l.length = n ∧ n ≤ c := by
  rcases h with ⟨_, _, rfl, _⟩ | ⟨b, c, rest, h1, h2, h3, h4, h5, h6⟩
  · omega
  · exact ⟨b, c, rest, h1, h2, h3, by simpa using h4, h6⟩
theorem SlB.len {m : Mem} {e : TypeId} {v : Value} {n : Nat} {bo : Option Nat} {l : List Value} (h : SlB m e 1 v n bo l) : l.length = n := by
  rcases h with ⟨_, _, rfl, rfl⟩ | ⟨b, c, rest, h1, h2, h3, h4, h5, h6⟩
  · rfl
  · simpa using h4
theorem SlB.slice {m : Mem} {e : TypeId} {v : Value} {n : Nat} {bo : Option Nat} {l : List Value} (h : SlB m e 1 v n bo l) : ∃ p c, v = .slice p n c := by
  rcases h with ⟨_, rfl, rfl, rfl⟩ | ⟨b, c, rest, h1, rfl, _⟩
  · exact ⟨_, _, rfl⟩
  · exact ⟨_, _, rfl⟩
theorem SlB.keep {m m' : Mem} {e : TypeId} {sz : Nat} {v : Value} {n : Nat} {bo : Option Nat} {l : List Value} (h : SlB m e sz v n bo l) (hk : ∀ b o, bo = some b → m b = some o → m' b = some o) : SlB m' e sz v n bo l := by
  rcases h with h | ⟨b, c, rest, h1, h2, h3, h4⟩
  · exact .inl h
  · exact .inr ⟨b, c, rest, h1, h2, hk b _ h1 h3, h4⟩
theorem app_get {l rest : List Value} {j : Nat} {v : Value} (h : l[j]? = some v) : (l ++ rest).toArray[j]? = some v := by
  have := (List.getElem?_eq_some_iff.1 h).1
  simp [List.getElem?_append_left this, h]
theorem app_set {l rest : List Value} {j : Nat} {v : Value} (h : j < l.length) : (l ++ rest).toArray.setIfInBounds j v = (l.set j v ++ rest).toArray := by
  apply Array.ext'
  simp [List.set_append_left _ _ h]
theorem SlB.cells {m : Mem} {e : TypeId} {sz n : Nat} {v : Value} {bo : Option Nat} {l : List Value} (h : SlB m e sz v n bo l) {b : Nat} (hb : bo = some b) : ∃ c, m b = some (.cells c e (0, 0)) := by
  rcases h with ⟨rfl, _⟩ | ⟨b', c, rest, h1, _, h3, _⟩
  · cases hb
  · rw [h1] at hb; cases hb; exact ⟨_, h3⟩
end Go.Sp
