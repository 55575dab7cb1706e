/-
  What is proved: what one who steps agents has of its own, as a part of its heap; orders with calls that change nothing; ways that meet again. Conditions: those that each theorem names.
-/
import Derived.Test.YtpgooljdodijlaaCZK
namespace Go.Proofs.Ytpgooljdodijlaa
open Go Go.Sp Go.Conc Go.RowKit
attribute [local irreducible] Code.wps OpsS OpsL Oper.wps Sem.wpm CallM RunM
set_option linter.unusedSimpArgs false
set_option linter.unusedVariables false
section
variable {P : Program} {ops : Array Oper} {Q : Exit → Act → Mem → Prop} {S : Mem → Prop} {m : Mem} {n : Nat} {base : Nat → Value} {rs : List (Nat × Value)} {ds : List Deferred} {i : Nat} {rest : List (Nat × Bool)}
variable {dst : Option Tmp} {op : Op} {ty : TypeId} {pos : String} {after : Array Edge}
/-- One whose guard says no. -/
theorem dr_gx {j d : Nat} {w b : Bool} (ho : ops[i]? = some ⟨dst, op, ty, pos, after, some (j, w)⟩) (hd : dstOk n ⟨dst, op, ty, pos, after, some (j, w)⟩ = true) (hj : (ops[j]?).bind (·.dst) = some d) (hdn : Nat.blt d n = true) (hv : Sp.look base rs d = .bool b) (hb : b = !w)
    (h : DrawE P ops Q S rest n base (outE dst undef rs) ds m) : DrawE P ops Q S ((i, true) :: rest) n base rs ds m := by
  intro a ha
  simp only [DrawS, ho]
  refine ⟨undef, ?_, h _ (ha.put hd undef)⟩
  unfold MuteS
  rw [if_neg (by rw [wanted_no rfl hj (by rw [ha.tmp (Nat.lt_of_succ_le (Nat.le_of_ble_eq_true hdn)), hv]) hb]; simp)]
/-- A call that changes nothing. -/
theorem dr_gmc {j d : Nat} {w b : Bool} {v : Value} {f : FuncId} {args : Array Value} (ho : ops[i]? = some ⟨dst, op, ty, pos, after, some (j, w)⟩) (hd : dstOk n ⟨dst, op, ty, pos, after, some (j, w)⟩ = true) (hj : (ops[j]?).bind (·.dst) = some d) (hdn : Nat.blt d n = true) (hv : Sp.look base rs d = .bool b) (hb : b = w)
    (hy : ∀ m, S m → Enters P ⟨dst, op, ty, pos, after, some (j, w)⟩ (ev base rs) m f args) (hc : ∀ m, S m → CallM P f args m (Ret v m)) (h : DrawE P ops Q S rest n base (outE dst v rs) ds m) : DrawE P ops Q S ((i, true) :: rest) n base rs ds m := by
  intro a ha
  simp only [DrawS, ho]
  refine ⟨v, ?_, h _ (ha.put hd v)⟩
  unfold MuteS
  rw [if_pos (wanted_yes rfl hj (by rw [ha.tmp (Nat.lt_of_succ_le (Nat.le_of_ble_eq_true hdn)), hv]) hb)]
  intro m hS
  have := hy m hS
  rw [← ha.eval] at this
  exact wpm_mono (fun _ _ z => z) _ (fun nx m' ⟨h1, h2⟩ => by subst h1; subst h2; exact hc m' hS) this
/-- Ways that meet again: 'live' is what is known of the slots where they do. -/
theorem e_join {c : Code} (live : List (Nat × Value)) (m' : Mem) (h1 : ∀ base', WayE Q .normal n base' live ds m') (h2 : ∀ Q', (∀ base', WayE Q' .normal n base' live ds m') → CodeE P c Q' n base rs ds m) : CodeE P c Q n base rs ds m := h2 Q h1
theorem w_join {live : List (Nat × Value)} (hk : ∀ base', WayE Q .normal n base' live ds m) (hl : ∀ t v, (t, v) ∈ live → Sp.look base rs t = v) : WayE Q .normal n base rs ds m := by
  intro a ha
  have key : ∀ l : List (Nat × Value), (∀ t v, (t, v) ∈ l → Sp.look base rs t = v) → Rep a n (Sp.look base rs) l ds := by
    intro l
    induction l with
    | nil => exact fun _ => ha.ground
    | cons x l ih =>
      intro h
      have h2 := ih fun t v hx => h t v (List.mem_cons_of_mem _ hx)
      refine h2.pin ?_
      have h3 : ∀ t, Sp.look (Sp.look base rs) l t = Sp.look base rs t := fun t => by rw [← h2.slots t, ha.slots t]
      rw [h3]
      exact h x.1 x.2 List.mem_cons_self
  exact hk _ a (key live hl)
end
/-! ### What is one's own -/
theorem Part.put_same (p : Part) (b : Nat) (o : Obj) : (p.put b o) b = some o := if_pos rfl
theorem Part.put_ne (p : Part) {b c : Nat} (o : Obj) (h : c ≠ b) : (p.put b o) c = p c := if_neg h
/-- A part that is looked at alone. -/
def pm (O : Part) : Mem := ⟨O, fun _ _ _ _ _ => True⟩
structure Hv (L : Lw) (gs : List Ag) (sts : List (Option L.St)) (tab : Nat → Option (Ag × L.St)) (M S O : Part) : Prop where
  mn : Mn L gs sts tab M S
  own : ∀ b o, O b = some o → M b = some o ∧ S b = none ∧ o.isChan = false ∧ ¬ RO o ∧ ∀ a ∈ gs, b ≠ a.a
section
variable {L : Lw} {gs : List Ag} {sts : List (Option L.St)} {tab : Nat → Option (Ag × L.St)} {M S O : Part}
theorem Mn.agM (H : Mn L gs sts tab M S) {a : Ag} (h : a ∈ gs) : ∃ o, M a.a = some o := by
  obtain ⟨j, hj, rfl⟩ := List.getElem_of_mem h
  have hl : j < sts.length := by rw [H.len]; exact hj
  exact ⟨_, (H.ag j _ _ (List.getElem?_eq_getElem hj) (List.getElem?_eq_getElem hl)).1⟩
theorem Hv.m (H : Hv L gs sts tab M S O) {b : Nat} {o : Obj} (h : O b = some o) : M b = some o := (H.own b o h).1
theorem Hv.fresh (H : Hv L gs sts tab M S O) {b : Nat} (h : M b = none) : O b = none := by
  cases e : O b with
  | none => rfl
  | some o => rw [H.m e] at h; cases h
/-- A new block. -/
theorem Hv.new (H : Hv L gs sts tab M S O) {b : Nat} {st : Stp} (hb : (Mem.mk M st) b = none) {c : Array Value} {e : TypeId} : Hv L gs sts tab ((Mem.mk M st).set b (.cells c e (0, 0))).at_ S (O.put b (.cells c e (0, 0))) := by
  have hb' : M b = none := hb
  have up : ∀ b' o, M b' = some o → ((Mem.mk M st).set b (.cells c e (0, 0))) b' = some o := up_new (fun _ _ h => h) hb
  refine ⟨H.mn.own fun b' o h _ => up b' o h, fun b' o h => ?_⟩
  by_cases hx : b' = b
  · subst hx
    rw [Part.put_same] at h
    obtain rfl := Option.some.inj h
    refine ⟨Mem.set_same _ _ _, ?_, rfl, ro_open _ _, fun a ha e => ?_⟩
    · cases e : S b' with
      | none => rfl
      | some o => rw [H.mn.sh b' o e] at hb'; cases hb'
    · obtain ⟨o, ho⟩ := H.mn.agM ha
      rw [← e, hb'] at ho; cases ho
  · rw [Part.put_ne _ _ hx] at h
    obtain ⟨i1, i2⟩ := H.own b' o h
    exact ⟨up b' o i1, i2⟩
/-- A block of one's own is written. -/
theorem Hv.write (H : Hv L gs sts tab M S O) {b : Nat} {st : Stp} {o0 : Obj} (hO : O b = some o0) {c : Array Value} {e : TypeId} : Hv L gs sts tab ((Mem.mk M st).set b (.cells c e (0, 0))).at_ S (O.put b (.cells c e (0, 0))) := by
  obtain ⟨j1, j2, j3, j4, j5⟩ := H.own b o0 hO
  refine ⟨H.mn.own fun b' o h q => ?_, fun b' o h => ?_⟩
  · refine Mem.miss (fun e => ?_) h
    subst e
    rcases q with q | q | ⟨a, ha, q⟩
    · rw [j2] at q; cases q
    · have := H.mn.ro b' o q
      rw [j1] at this
      obtain rfl := Option.some.inj this
      obtain ⟨c, e, e1, e2⟩ := L.ro_ro b' _ q
      exact j4 ⟨c, e, e1, e2⟩
    · exact j5 a ha q
  · by_cases hx : b' = b
    · subst hx
      rw [Part.put_same] at h
      obtain rfl := Option.some.inj h
      exact ⟨Mem.set_same _ _ _, j2, rfl, ro_open _ _, j5⟩
    · rw [Part.put_ne _ _ hx] at h
      obtain ⟨i1, i2⟩ := H.own b' o h
      exact ⟨Mem.miss hx i1, i2⟩
/-- A yield. -/
theorem Hv.yield (H : Hv L gs sts tab M S O) {sts' : List (Option L.St)} {tab' : Nat → Option (Ag × L.St)} {M' S' : Part} (hm : Mn L gs sts' tab' M' S') (hK : Keeps gs M S S' M') : Hv L gs sts' tab' M' S' O := ⟨hm, fun b o h => by
  obtain ⟨i1, i2, i3, i4, i5⟩ := H.own b o h
  obtain ⟨k1, k2⟩ := hK b o i1 i2 i3 i4 i5
  exact ⟨k1, k2, i3, i4, i5⟩⟩
theorem slB_up {O' : Part} {e : TypeId} {sz n : Nat} {v : Value} {bo : Option Nat} {l : List Value} (h : SlB (pm O) e sz v n bo l) (hk : ∀ b o, bo = some b → O b = some o → O' b = some o) : SlB (pm O') e sz v n bo l := h.keep (fun b o hb hm => hk b o hb hm)
theorem slB_new {e : TypeId} {sz n : Nat} {v : Value} {bo : Option Nat} {l : List Value} (h : SlB (pm O) e sz v n bo l) {b : Nat} {x : Obj} (hb : O b = none) : SlB (pm (O.put b x)) e sz v n bo l :=
  slB_up h fun b' o _ hm => by rw [Part.put_ne _ _ (fun e => by rw [e, hb] at hm; cases hm)]; exact hm
theorem slB_other {e : TypeId} {sz n : Nat} {v : Value} {bo : Option Nat} {l : List Value} (h : SlB (pm O) e sz v n bo l) {b : Nat} {x : Obj} (hb : bo ≠ some b) : SlB (pm (O.put b x)) e sz v n bo l :=
  slB_up h fun b' o hb' hm => by rw [Part.put_ne _ _ (fun e => hb (by rw [hb', e]))]; exact hm
theorem Hv.sl (H : Hv L gs sts tab M S O) {st : Stp} {e : TypeId} {sz n : Nat} {v : Value} {bo : Option Nat} {l : List Value} (h : SlB (pm O) e sz v n bo l) : SlB ⟨M, st⟩ e sz v n bo l := h.keep (fun b o _ hm => H.m hm)
/-- An append. -/
theorem Hv.append (H : Hv L gs sts tab M S O) {st : Stp} {m' : Mem} {e : TypeId} {sz n k : Nat} {v v' : Value} {bo : Option Nat} {l ln : List Value} (hs : SlB (pm O) e sz v n bo l) (hk : ln.length = k * sz) (hne : ln ≠ []) (h : Appended ⟨M, st⟩ e sz n k bo l ln v' m') :
    ∃ b M' O', m' = ⟨M', st⟩ ∧ Hv L gs sts tab M' S O' ∧ SlB (pm O') e sz v' (n + k) (some b) (l ++ ln) ∧ (bo = some b ∨ M b = none) ∧ (∀ b', b' ≠ b → O' b' = O b') ∧ (∀ b' o, M b' = some o → b' ≠ b → M' b' = some o) := by
  rcases h with ⟨_, _, rfl, _⟩ | ⟨b, c, rest, rfl, rfl, h1, h2, h3⟩
  · exact absurd rfl hne
  · have hlen : (l ++ ln).length = (n + k) * sz := by
      have : l.length = n * sz := by
        rcases hs with ⟨_, _, rfl, rfl⟩ | ⟨_, _, _, _, _, _, h4, _⟩
        · simp
        · exact h4
      simp [this, hk, Nat.add_mul]
    refine ⟨b, _, O.put b (.cells (l ++ ln ++ rest).toArray e), rfl, ?_, .inr ⟨b, c, rest, rfl, rfl, Part.put_same _ _ _, hlen, h1, h2⟩, h3, fun b' hb => Part.put_ne _ _ hb, fun b' o ho hb => Mem.miss hb ho⟩
    rcases h3 with rfl | h3
    · obtain ⟨c0, hc0⟩ := hs.cells rfl
      exact H.write hc0
    · exact H.new h3
theorem Hv.keepOther (H : Hv L gs sts tab M S O) {O' : Part} {e : TypeId} {sz n : Nat} {v : Value} {bo b1 : Option Nat} {l : List Value} {b : Nat} (hs : SlB (pm O) e sz v n bo l) (hd : bo ≠ b1 ∨ bo = none) (hb : b1 = some b ∨ M b = none) (hO : ∀ b', b' ≠ b → O' b' = O b') : SlB (pm O') e sz v n bo l ∧ bo ≠ some b := by
  have hne : bo ≠ some b := fun e => by
    subst e
    rcases hb with rfl | hb
    · rcases hd with hd | hd
      · exact hd rfl
      · cases hd
    · obtain ⟨c, hc⟩ := hs.cells rfl
      have := H.fresh hb
      rw [show O b = _ from hc] at this; cases this
  exact ⟨slB_up hs fun x o hx hm => by rw [hO x (fun e => hne (by rw [hx, e]))]; exact hm, hne⟩
end
/-! ### Rows of programs -/
/-- A row of touches as the law is given it. -/
structure Rw where
  po : Option Addr
  c : Nat
  l : List Tch
def Rw.v (r : Rw) : Value := .slice r.po r.l.length r.c
def progV (r : Rw) (p : Nat × Int) : List Value := [r.v, .int .i64 ((p.1 : Nat) : Int), .int .u64 p.2]
def progsV : List Rw → List (Nat × Int) → List Value
  | r :: rs, p :: ps => progV r p ++ progsV rs ps
  | _, _ => []
theorem progsV_len : ∀ (rs : List Rw) (ps : List (Nat × Int)), rs.length = ps.length → (progsV rs ps).length = ps.length * 3 := by
  intro rs
  induction rs with
  | nil => intro ps h; cases ps with
    | nil => rfl
    | cons p ps => simp at h
  | cons r rs ih => intro ps h; cases ps with
    | nil => simp at h
    | cons p ps => simp only [progsV, progV, List.length_append, List.length_cons, List.length_nil, ih ps (by simpa using h)]; omega
theorem progsV_get : ∀ (rs : List Rw) (ps : List (Nat × Int)) (j : Nat) (r : Rw) (p : Nat × Int), rs[j]? = some r → ps[j]? = some p →
    (progsV rs ps)[j * 3]? = some r.v ∧ (progsV rs ps)[j * 3 + 1]? = some (.int .i64 ((p.1 : Nat) : Int)) ∧ (progsV rs ps)[j * 3 + 2]? = some (.int .u64 p.2) := by
  intro rs
  induction rs with
  | nil => intro ps j r p h; simp at h
  | cons r0 rs ih => intro ps j r p h1 h2; cases ps with
    | nil => simp at h2
    | cons p0 ps => cases j with
      | zero =>
        obtain rfl : r0 = r := by simpa using h1
        obtain rfl : p0 = p := by simpa using h2
        exact ⟨rfl, rfl, rfl⟩
      | succ j =>
        obtain ⟨i1, i2, i3⟩ := ih ps j r p (by simpa using h1) (by simpa using h2)
        have e : (j + 1) * 3 = j * 3 + 3 := by omega
        rw [e]
        exact ⟨i1, i2, i3⟩
theorem progsV_set : ∀ (rs : List Rw) (ps : List (Nat × Int)) (j : Nat) (r : Rw) (p : Nat × Int), rs[j]? = some r → j < ps.length →
    (((progsV rs ps).set (j * 3) r.v).set (j * 3 + 1) (.int .i64 ((p.1 : Nat) : Int))).set (j * 3 + 2) (.int .u64 p.2) = progsV rs (ps.set j p) := by
  intro rs
  induction rs with
  | nil => intro ps j r p h; simp at h
  | cons r0 rs ih => intro ps j r p h1 h2; cases ps with
    | nil => simp at h2
    | cons p0 ps => cases j with
      | zero =>
        obtain rfl : r0 = r := by simpa using h1
        rfl
      | succ j =>
        have := ih ps j r p (by simpa using h1) (by simpa using h2)
        have e : (j + 1) * 3 = j * 3 + 3 := by omega
        rw [e]
        show progV r0 p0 ++ _ = progV r0 p0 ++ _
        rw [← this]
        rfl
theorem progsV_snoc : ∀ (rs : List Rw) (ps : List (Nat × Int)) (r : Rw) (p : Nat × Int), rs.length = ps.length → progsV (rs ++ [r]) (ps ++ [p]) = progsV rs ps ++ progV r p := by
  intro rs
  induction rs with
  | nil => intro ps r p h; cases ps with
    | nil => simp [progsV]
    | cons p ps => simp at h
  | cons r0 rs ih => intro ps r p h; cases ps with
    | nil => simp at h
    | cons p0 ps => simp only [List.cons_append, progsV, ih ps r p (by simpa using h), List.append_assoc]
theorem splice3 {l rest : List Value} {o : Nat} {x y z : Value} (h : o + 2 < l.length) : splice (l ++ rest).toArray o [x, y, z] = (((l.set o x).set (o + 1) y).set (o + 2) z ++ rest).toArray := by
  simp only [splice]
  rw [app_set (by omega), app_set (by simp; omega), app_set (by simp; omega)]
theorem app_take3 {l rest : List Value} {o : Nat} {x y z : Value} (h0 : l[o]? = some x) (h1 : l[o + 1]? = some y) (h2 : l[o + 2]? = some z) : ((l ++ rest).toArray.toList.drop o).take 3 = [x, y, z] :=
  take3 (app_get h0) (app_get h1) (app_get h2)
theorem slB_at3 {m : Mem} {e : TypeId} {v : Value} {n : Nat} {bo : Option Nat} {l : List Value} (h : SlB m e 3 v n bo l) (hn : 0 < n) : ∃ b c rest, bo = some b ∧ v = .slice (some ⟨b, 0, none⟩) n c ∧ m b = some (.cells (l ++ rest).toArray e) ∧ l.length = n * 3 ∧ n ≤ c := by
  rcases h with ⟨_, _, rfl, _⟩ | ⟨b, c, rest, h1, h2, h3, h4, h5, h6⟩
  · omega
  · exact ⟨b, c, rest, h1, h2, h3, h4, h6⟩
theorem slB_slice {m : Mem} {e : TypeId} {sz : Nat} {v : Value} {n : Nat} {bo : Option Nat} {l : List Value} (h : SlB m e sz v n bo l) : ∃ p c, v = .slice p n c := by
  rcases h with ⟨_, rfl, rfl, rfl⟩ | ⟨b, c, rest, h1, rfl, _⟩
  · exact ⟨_, _, rfl⟩
  · exact ⟨_, _, rfl⟩
/-- Rows of touches that came in. -/
structure InRows (W : World) (p : Option Addr) (rs : List Rw) : Prop where
  lay : rs ≠ [] → ∃ b o c e f, p = some ⟨b, o, none⟩ ∧ W.heap[b]? = some (.cells c e f) ∧ ∀ (j : Nat) (r : Rw), rs[j]? = some r → c[o + j]? = some r.v
  rows : ∀ r ∈ rs, RowT (roW W) r.po r.l
theorem InRows.at {W : World} {p : Option Addr} {rs : List Rw} (h : InRows W p rs) {M : Part} (hM : ∀ b o, roW W b = some o → M b = some o) (hl : rs ≠ []) :
    ∃ b o c e, p = some ⟨b, o, none⟩ ∧ M b = some (.cells c e (0, c.size)) ∧ ∀ (j : Nat) (r : Rw), rs[j]? = some r → c[o + j]? = some r.v := by
  obtain ⟨b, o, c, e, f, h1, h2, h3⟩ := h.lay hl
  have hpos : 0 < rs.length := List.length_pos_iff.2 hl
  have hlast := (Array.getElem?_eq_some_iff.1 (h3 0 _ (List.getElem?_eq_getElem hpos))).1
  have h0 : c.size ≠ 0 := by omega
  exact ⟨b, o, c, e, h1, hM b _ (roW_of h2 h0), h3⟩
theorem RowT.up {M M' : Part} {po : Option Addr} {l : List Tch} (h : RowT M po l) (hM : ∀ b o, M b = some o → M' b = some o) : RowT M' po l := by
  rcases h with h | ⟨br, o, c, e, z, h1, h2, h3⟩
  · exact .inl h
  · exact .inr ⟨br, o, c, e, z, h1, hM _ _ h2, h3⟩
end Go.Proofs.Ytpgooljdodijlaa
