/-
  What is proved: what agents that play touches do. Conditions: those that each theorem names.
-/
import Derived.Test.YtpgooljdodijlaaCZA
namespace Go.Proofs.Ytpgooljdodijlaa
open Go Go.Sp Go.Conc Go.RowKit
attribute [local irreducible] Code.wps OpsS OpsL Oper.wps Sem.wpm CallM RunM
set_option linter.unusedSimpArgs false
set_option linter.unusedVariables false
theorem ag49 : aggOf Try.prog 49 = some false := by kernel_rfl
theorem el49 : elemOfS Try.prog 49 = some 57 := by kernel_rfl
theorem sz49 : szOf Try.prog 49 = some 1 := by kernel_rfl
theorem ag50 : aggOf Try.prog 50 = some false := by kernel_rfl
theorem sz50 : szOf Try.prog 50 = some 1 := by kernel_rfl
theorem ag57 : aggOf Try.prog 57 = some true := by kernel_rfl
theorem sz57 : szOf Try.prog 57 = some 3 := by kernel_rfl
theorem zr57 : zeroOf Try.prog 57 = some (.agg #[.int .u8 0, .int .i64 0, .int .u64 0]) := by kernel_rfl
theorem ag5 : aggOf Try.prog 5 = some false := by kernel_rfl
theorem sz5 : szOf Try.prog 5 = some 1 := by kernel_rfl
theorem ag3 : aggOf Try.prog 3 = some false := by kernel_rfl
theorem bd53 : bodied Try.prog 53 = true := by kernel_rfl
theorem bd52 : bodied Try.prog 52 = true := by kernel_rfl
theorem so133 (v : Value) : sound Try.prog 133 v = true := by
  have : Try.prog.underlying 133 = _ := Try.underlying133
  unfold sound; rw [this]
/-- A touch. -/
structure Tch where
  d : Int
  a : Int
  v : Int
/-- What agents that play share. -/
structure Sh where
  ws : List Int
  tc : Int
  la : Int
  ls : List Int
def plS (ba bw bl : Nat) (s : Sh) : Part := fun b => if b = ba then some (arB bw s.ws s.tc s.la) else if b = bw then some (.cells (wordsV s.ws) 31) else if b = bl then some (.cells (wordsV s.ls) 31) else none
/-- A touch of agent i, which had read 'last' as it made ready. -/
def stepT (i : Nat) (last : Int) (x : Tch) (s : Sh) : Sh :=
  { ws := if x.d = 0 then s.ws else if x.d = 1 then upW s.ws x.a (fun _ => IntKind.u64.wrap (last + x.v)) else upW s.ws x.a (fun w => IntKind.u64.wrap (w + x.v))
    tc := tcW s.ws x.a s.tc
    la := laW s.ws x.a s.la
    ls := if x.d = 1 then s.ls else s.ls.set i (rdW s.ws x.a) }
theorem wordsV_inj {a b : List Int} (h : wordsV a = wordsV b) : a = b := by
  unfold wordsV at h
  have := congrArg Array.toList h
  simp only at this
  exact (List.map_inj_right (fun x y h => by cases h; rfl)).1 this
structure Three (ba bw bl : Nat) : Prop where
  n1 : ba ≠ bw
  n2 : ba ≠ bl
  n3 : bw ≠ bl
section
variable {ba bw bl : Nat}
theorem plS_ba (s : Sh) : plS ba bw bl s ba = some (arB bw s.ws s.tc s.la) := if_pos rfl
theorem plS_bw (h : Three ba bw bl) (s : Sh) : plS ba bw bl s bw = some (.cells (wordsV s.ws) 31) := by unfold plS; rw [if_neg h.n1.symm, if_pos rfl]
theorem plS_bl (h : Three ba bw bl) (s : Sh) : plS ba bw bl s bl = some (.cells (wordsV s.ls) 31) := by unfold plS; rw [if_neg h.n2.symm, if_neg h.n3.symm, if_pos rfl]
theorem plS_none {s : Sh} {b : Nat} : plS ba bw bl s b = none ↔ b ≠ ba ∧ b ≠ bw ∧ b ≠ bl := by
  unfold plS
  split
  · rename_i h; simp [h]
  · split
    · rename_i h; simp [h]
    · split
      · rename_i h; simp [h]
      · rename_i h1 h2 h3; simp [h1, h2, h3]
theorem plS_some {s : Sh} {b : Nat} {o : Obj} (h : plS ba bw bl s b = some o) : (b = ba ∧ o = arB bw s.ws s.tc s.la) ∨ (b = bw ∧ o = .cells (wordsV s.ws) 31) ∨ (b = bl ∧ o = .cells (wordsV s.ls) 31) := by
  unfold plS at h
  split at h
  · rename_i z; exact .inl ⟨z, (Option.some.inj h).symm⟩
  · split at h
    · rename_i z; exact .inr (.inl ⟨z, (Option.some.inj h).symm⟩)
    · split at h
      · rename_i z; exact .inr (.inr ⟨z, (Option.some.inj h).symm⟩)
      · cases h
end
/-- The law of agents that play. -/
def playL (ba bw bl nw nl : Nat) (ro : Part) (h3 : Three ba bw bl) (h1 : ∀ b o, ro b = some o → RO o) (h2 : ∀ b o, ro b = some o → b ≠ ba ∧ b ≠ bw ∧ b ≠ bl) : Lw where
  St := Nat × List Tch × Int
  tr := fun st S flag st' S' => match st.2.1 with
    | [] => False
    | x :: rest => ∃ s, st' = (st.1, rest, (stepT st.1 st.2.2 x s).ls.getD st.1 0) ∧ flag = rest.isEmpty ∧ S = plS ba bw bl s ∧ S' = plS ba bw bl (stepT st.1 st.2.2 x s)
  dd := fun _ S S' => S' = S
  inv := fun S => ∃ s, S = plS ba bw bl s ∧ s.ws.length = nw ∧ s.ls.length = nl
  inv_bare := by
    rintro S ⟨s, rfl, e1, e2⟩ b o h
    rcases plS_some h with ⟨_, rfl⟩ | ⟨_, rfl⟩ | ⟨_, rfl⟩
    · exact ⟨_, _, rfl⟩
    · exact ⟨_, _, rfl⟩
    · exact ⟨_, _, rfl⟩
  ro := ro
  ro_ro := h1
  ro_inv := by
    rintro S ⟨s, rfl, _, _⟩ b o h
    exact plS_none.2 (h2 b o h)
theorem stepT_len (i : Nat) (last : Int) (x : Tch) (s : Sh) : (stepT i last x s).ws.length = s.ws.length ∧ (stepT i last x s).ls.length = s.ls.length := by
  unfold stepT
  refine ⟨?_, ?_⟩
  · dsimp only; split
    · rfl
    · split <;> exact upW_length _ _ _
  · dsimp only; split
    · rfl
    · simp
/-- A row of touches lies there. -/
def RowT (M : Part) (po : Option Addr) (l : List Tch) : Prop := l = [] ∨ ∃ br o c e z, po = some ⟨br, o, none⟩ ∧ M br = some (.cells c e z) ∧
  ∀ (j : Nat) (x : Tch), l[j]? = some x → c[o + j * 3]? = some (.int .u8 x.d) ∧ c[o + j * 3 + 1]? = some (.int .i64 x.a) ∧ c[o + j * 3 + 2]? = some (.int .u64 x.v)
set_option maxRecDepth 20000 in
theorem c_add (z : Nat) (d a v w : Int) (m : Mem) (h : m z = some (.cells #[.int .u8 d, .int .i64 a, .int .u64 v] 57)) : CallM Try.prog 53 #[.int .u64 w, .pointer (some ⟨z, 0, none⟩)] m (Ret (.int .u64 (IntKind.u64.wrap (w + v))) m) := by
  refine callM_body (args := [.int .u64 w, .pointer (some ⟨z, 0, none⟩)]) Try.func53 rfl rfl rfl ?_
  repeat (refine e_seq ?_)
  refine e_reg rfl ?_
  refine l_y (v := .int .u64 0) y_assign ?_
  refine l_end ?_
  refine e_then ?_
  repeat (refine e_seq ?_)
  refine e_reg rfl ?_
  refine l_y (v := .int .u64 w) y_move ?_
  refine l_y (v := .pointer (some ⟨z, 2, none⟩)) (y_fieldB rfl Try.underlying57 rfl sz31 rfl) ?_
  refine l_y (v := .int .u64 v) (y_loadB rfl ag31 h rfl) ?_
  refine l_y (v := .int .u64 (IntKind.u64.wrap (w + v))) (y_int (p := w) (q := v) rfl rfl rfl) ?_
  refine l_y (v := .int .u64 (IntKind.u64.wrap (w + v))) y_assign ?_
  refine l_end ?_
  refine e_then ?_
  refine e_ret ?_
  exact body_ret (l := [.int .u64 (IntKind.u64.wrap (w + v))]) (resVals_cons (resVal_tmp rfl) resVals_nil) (Mem.le_refl _) ⟨rfl, rfl⟩
/-- A round of the loop of touches. -/
structure PS (L : Lw) where
  k : Nat
  M : Part
  S : Part
  Ob : Bool → L.St → Part → Prop
section
variable {ba bw bl nw nl : Nat} {ro : Part} {h3 : Three ba bw bl} {h1 : ∀ b o, ro b = some o → RO o} {h2 : ∀ b o, ro b = some o → b ≠ ba ∧ b ≠ bw ∧ b ≠ bl}
theorem play_has {S : Part} (h : (playL ba bw bl nw nl ro h3 h1 h2).inv S) : ∃ ws tc la, HasAr ba bw S ws tc la := by
  obtain ⟨s, rfl, _, _⟩ := h
  exact ⟨s.ws, s.tc, s.la, h3.n1, plS_ba s, plS_bw h3 s⟩
theorem has_inj {s : Sh} {ws : List Int} {tc la : Int} (h : HasAr ba bw (plS ba bw bl s) ws tc la) (h3 : Three ba bw bl) : ws = s.ws ∧ tc = s.tc ∧ la = s.la := by
  obtain ⟨_, e1, e2⟩ := h
  rw [plS_ba] at e1
  rw [plS_bw h3] at e2
  have e3 := wordsV_inj (Obj.cells.inj (Option.some.inj e2)).1
  have e4 := (Obj.cells.inj (Option.some.inj e1)).1
  simp only [Array.mk.injEq, List.cons.injEq, Value.int.injEq, true_and, and_true] at e4
  exact ⟨e3.symm, e4.2.1.symm, e4.2.2.symm⟩
/-- What a touch leaves. -/
theorem carry_to {ag : Ag} {M S M₁ M₂ : Part} {s1 s2 : Sh} (h : Carry (playL ba bw bl nw nl ro h3 h1 h2) ag M S (plS ba bw bl s1) M₁) (hb : ∀ b, b ≠ ba → b ≠ bw → b ≠ bl → M₂ b = M₁ b)
    (ha : M₂ ba = some (arB bw s2.ws s2.tc s2.la)) (hw : M₂ bw = some (.cells (wordsV s2.ws) 31)) (hl : M₂ bl = some (.cells (wordsV s2.ls) 31)) : Carry (playL ba bw bl nw nl ro h3 h1 h2) ag M S (plS ba bw bl s2) M₂ := by
  refine ⟨fun b o i1 i2 i3 i4 i5 => ?_, fun b o hs => ?_, fun b o hs => ?_, ?_, ?_⟩
  · obtain ⟨i6, i7⟩ := h.keep b o i1 i2 i3 i4 i5
    obtain ⟨j1, j2, j3⟩ := plS_none.1 i7
    exact ⟨by rw [hb b j1 j2 j3]; exact i6, plS_none.2 ⟨j1, j2, j3⟩⟩
  · rcases plS_some hs with ⟨rfl, rfl⟩ | ⟨rfl, rfl⟩ | ⟨rfl, rfl⟩
    · exact ha
    · exact hw
    · exact hl
  · obtain ⟨j1, j2, j3⟩ := h2 b o hs
    rw [hb b j1 j2 j3]; exact h.ro b o hs
  · obtain ⟨j1, j2, j3⟩ := plS_none.1 h.a.2
    rw [hb _ j1 j2 j3]; exact h.a.1
  · exact plS_none.2 (plS_none.1 h.a.2)
abbrev PL (ba bw bl nw nl : Nat) (ro : Part) (h3 : Three ba bw bl) (h1 : ∀ b o, ro b = some o → RO o) (h2 : ∀ b o, ro b = some o → b ≠ ba ∧ b ≠ bw ∧ b ≠ bl) : Lw := playL ba bw bl nw nl ro h3 h1 h2
set_option maxRecDepth 20000 in
set_option maxHeartbeats 4000000 in
/-- An agent that plays touches. -/
theorem c_prog {ag : Ag} {pc M0 S0 : Part} {t1 t2 i n c : Nat} {po : Option Addr} {l : List Tch} {Ob0 : Bool → Nat × List Tch × Int → Part → Prop} (hmi : ag.mi = .iface 23 (.pointer (some ⟨ba, 0, none⟩))) (hi : i < nl) (hnl : n = l.length) (hbig : l.length < 2 ^ 62)
    (hc0 : Carry (PL ba bw bl nw nl ro h3 h1 h2) ag M0 S0 S0 M0) {s00 : Sh} (hS0 : S0 = plS ba bw bl s00) (hlen : s00.ws.length = nw ∧ s00.ls.length = nl) (hob0 : Ob0 l.isEmpty (i, l, s00.ls.getD i 0) S0)
    (ht1 : M0 t1 = some (.cells #[.slice po n c] 49) ∧ S0 t1 = none) (ht2 : M0 t2 = some (.cells #[.pointer (some ⟨bl, i, none⟩)] 50) ∧ S0 t2 = none)
    (hrow : ∀ M, (∀ b c e k, M0 b = some (.cells c e (0, k)) → (S0 b = none ∧ k = 0) ∨ ro b = some (.cells c e (0, k)) → M b = some (.cells c e (0, k))) → RowT M po l) :
    CallM Try.prog 52 #[.iface 133 (.agg #[.pointer (some ⟨ag.a, 0, none⟩)]), .pointer (some ⟨t1, 0, none⟩), .pointer (some ⟨t2, 0, none⟩)] ⟨M0, Zl (PL ba bw bl nw nl ro h3 h1 h2) Try.prog kd ag Ob0⟩ (RunsTo (PL ba bw bl nw nl ro h3 h1 h2) ag pc M0 S0) := by
  subst hnl
  refine callM_body (args := [.iface 133 (.agg #[.pointer (some ⟨ag.a, 0, none⟩)]), .pointer (some ⟨t1, 0, none⟩), .pointer (some ⟨t2, 0, none⟩)]) Try.func52 rfl rfl rfl ?_
  have hdone : ∀ (M S : Part) (Ob : Bool → Nat × List Tch × Int → Part → Prop) (st : Nat × List Tch × Int) (e : Ending), Carry (PL ba bw bl nw nl ro h3 h1 h2) ag M0 S0 S M → (PL ba bw bl nw nl ro h3 h1 h2).inv S → Ob true st S → ((∃ v, e = .returned v) ∨ e = .panicked [{ v := .iface 130 (.agg #[]), recovered := false }]) →
      RunsTo (PL ba bw bl nw nl ro h3 h1 h2) ag pc M0 S0 e ⟨M, Zl (PL ba bw bl nw nl ro h3 h1 h2) Try.prog kd ag Ob⟩ := fun M S Ob st e k1 k2 k3 k4 =>
    ⟨Ob, st, S, M, k3, k2, k1.shared, k1.a.1, k1.a.2, fun b o j1 j2 j3 j4 j5 _ => (k1.keep b o j1 j2 j3 j4 j5).1, rfl, k4⟩
  repeat (refine e_seq ?_)
  refine e_reg rfl ?_
  refine l_y (v := .int .i64 ((0 : Nat) : Int)) y_assign ?_
  refine l_end ?_
  refine e_then ?_
  refine e_block ?_
  refine e_loop (σ := PS (PL ba bw bl nw nl ro h3 h1 h2)) (live := fun s => [(0, .iface 133 (.agg #[.pointer (some ⟨ag.a, 0, none⟩)])), (1, .pointer (some ⟨t1, 0, none⟩)), (2, .pointer (some ⟨t2, 0, none⟩)), (4, .int .i64 ((s.k : Nat) : Int))])
    (mem := fun s => ⟨s.M, Zl (PL ba bw bl nw nl ro h3 h1 h2) Try.prog kd ag s.Ob⟩)
    (I := fun s => s.k ≤ l.length ∧ Carry (PL ba bw bl nw nl ro h3 h1 h2) ag M0 S0 s.S s.M ∧ ∃ s1, s.S = plS ba bw bl s1 ∧ (s1.ws.length = nw ∧ s1.ls.length = nl) ∧ s.Ob (l.drop s.k).isEmpty (i, l.drop s.k, s1.ls.getD i 0) s.S) (μ := fun s => l.length - s.k)
    ⟨0, M0, S0, Ob0⟩ ⟨Nat.zero_le _, hc0, s00, hS0, hlen, hob0⟩ rfl (live_cons rfl (live_cons rfl (live_cons rfl (live_cons rfl live_nil)))) ?_
  rintro ⟨k, M, S, Ob⟩ base ⟨hk, hc, s0, hSs, ⟨hws0, hls0⟩, hob⟩
  dsimp only at hk hc hSs hob ⊢
  have hiS : (PL ba bw bl nw nl ro h3 h1 h2).inv S := ⟨s0, hSs, hws0, hls0⟩
  have g1 := hc.keep t1 _ ht1.1 ht1.2 rfl rfl (ro_open _ _)
  have g2 := hc.keep t2 _ ht2.1 ht2.2 rfl rfl (ro_open _ _)
  have grow : RowT M po l := hrow M fun b c e k' e1 e2 => by
    rcases e2 with ⟨e2, rfl⟩ | e2
    · exact (hc.keep b _ e1 e2 rfl rfl (ro_open _ _)).1
    · exact hc.ro b _ e2
  repeat (refine e_seq ?_)
  refine e_reg rfl ?_
  refine l_y (v := .int .i64 ((k : Nat) : Int)) y_move ?_
  refine l_y (v := .slice po l.length c) (y_loadB rfl ag49 g1.1 rfl) ?_
  refine l_y (v := .int .i64 ((l.length : Nat) : Int)) (y_len rfl rfl el49) ?_
  refine l_y (v := .bool (decide (((k : Nat) : Int) < ((l.length : Nat) : Int)))) (y_int (p := ((k : Nat) : Int)) (q := ((l.length : Nat) : Int)) rfl rfl rfl) ?_
  refine l_end ?_
  refine e_then ?_
  refine e_if (t := decide (((k : Nat) : Int) < ((l.length : Nat) : Int))) rfl (fun hlt => ?_) (fun hlt => ?_)
  case refine_2 =>
    have hke : k = l.length := by simp at hlt; omega
    subst hke
    rw [List.drop_length] at hob
    refine e_exit ?_
    refine w_then rfl ?_
    refine w_then rfl ?_
    refine w_exit ?_
    exact body_end (l := []) resVals_nil (Mem.le_refl _) (hdone M S Ob _ _ hc hiS hob (.inl ⟨_, rfl⟩))
  have hlt' : k < l.length := by simp at hlt; omega
  obtain ⟨x, rest, hdrop⟩ : ∃ x rest, l.drop k = x :: rest := ⟨_, _, List.drop_eq_getElem_cons hlt'⟩
  have hx : l[k]? = some x := by have := List.getElem?_drop (xs := l) (i := k) (j := 0); rw [hdrop] at this; simpa using this.symm
  have hrest : l.drop (k + 1) = rest := by rw [← List.drop_drop, hdrop]; rfl
  rw [hdrop] at hob
  obtain ⟨br, o, cc, ec, zc, rfl, hbr, hcc⟩ : ∃ br o c e z, po = some ⟨br, o, none⟩ ∧ M br = some (.cells c e z) ∧ ∀ (j : Nat) (x : Tch), l[j]? = some x → c[o + j * 3]? = some (.int .u8 x.d) ∧ c[o + j * 3 + 1]? = some (.int .i64 x.a) ∧ c[o + j * 3 + 2]? = some (.int .u64 x.v) := by
    rcases grow with h | h
    · subst h; simp at hlt'
    · exact h
  obtain ⟨q0, q1, q2⟩ := hcc k x hx
  refine e_skip ?_
  refine e_then ?_
  refine e_seq ?_
  refine e_block ?_
  repeat (refine e_seq ?_)
  refine e_reg rfl ?_
  refine l_y (v := .slice (some ⟨br, o, none⟩) l.length c) (y_loadB rfl ag49 g1.1 rfl) ?_
  refine l_y (v := .int .i64 ((k : Nat) : Int)) y_move ?_
  refine l_y (v := .pointer (some ⟨br, o + k * 3, none⟩)) (y_indexB rfl rfl el49 sz57 (Int.natCast_nonneg k) (by omega) (by simp)) ?_
  refine l_y (v := .agg #[.int .u8 x.d, .int .i64 x.a, .int .u64 x.v]) (y_loadNB (n := 3) (l := [.int .u8 x.d, .int .i64 x.a, .int .u64 x.v]) rfl ag57 sz57 hbr (take3 q0 q1 q2) (by have := (Array.getElem?_eq_some_iff.1 q2).1; omega)) ?_
  refine l_n (n_alloc zr57) fun z hz => ?_
  refine l_d (d_storeB (v := .agg #[.int .u8 x.d, .int .i64 x.a, .int .u64 x.v]) (c' := #[.int .u8 x.d, .int .i64 x.a, .int .u64 x.v]) rfl rfl sz57 (Mem.hit _ _ _) rfl rfl (Nat.le_refl 3) rfl) ?_
  rw [Mem.set_set]
  refine l_end ?_
  refine e_then ?_
  have h_z := Mem.hit ⟨M, Zl (PL ba bw bl nw nl ro h3 h1 h2) Try.prog kd ag Ob⟩ z (.cells #[.int .u8 x.d, .int .i64 x.a, .int .u64 x.v] 57)
  have n2z : t2 ≠ z := Mem.ne_none (m := ⟨M, Zl (PL ba bw bl nw nl ro h3 h1 h2) Try.prog kd ag Ob⟩) g2.1 hz
  have h_t2 : ((Mem.mk M (Zl (PL ba bw bl nw nl ro h3 h1 h2) Try.prog kd ag Ob)).set z (.cells #[.int .u8 x.d, .int .i64 x.a, .int .u64 x.v] 57)) t2 = some (.cells #[.pointer (some ⟨bl, i, none⟩)] 50) := Mem.miss n2z g2.1
  have hzS : S z = none := by cases hs : S z with | none => rfl | some o => exact absurd (hc.shared z o hs) (by intro e; rw [show M z = none from hz] at e; cases e)
  have rd0 : Ready (PL ba bw bl nw nl ro h3 h1 h2) ag ba bw Ob (i, x :: rest, s0.ls.getD i 0) M S := ⟨hob, hiS, hc.shared, hc.a.1, hc.a.2, hc.ro, hmi, fun S hS => play_has hS⟩
  have rd := rd0.new (x := .cells #[.int .u8 x.d, .int .i64 x.a, .int .u64 x.v] 57) hz
  subst hSs
  have h_bl : ((Mem.mk M (Zl (PL ba bw bl nw nl ro h3 h1 h2) Try.prog kd ag Ob)).set z (.cells #[.int .u8 x.d, .int .i64 x.a, .int .u64 x.v] 57)) bl = some (.cells (wordsV s0.ls) 31) := Mem.miss (Mem.ne_none (m := ⟨M, Zl (PL ba bw bl nw nl ro h3 h1 h2) Try.prog kd ag Ob⟩) (hc.shared _ _ (plS_bl h3 s0)) hz) (hc.shared _ _ (plS_bl h3 s0))
  generalize hMz : ((Mem.mk M (Zl (PL ba bw bl nw nl ro h3 h1 h2) Try.prog kd ag Ob)).set z (.cells #[.int .u8 x.d, .int .i64 x.a, .int .u64 x.v] 57)) = mz at *
  obtain ⟨Mz, stz⟩ := mz
  obtain rfl : stz = Zl (PL ba bw bl nw nl ro h3 h1 h2) Try.prog kd ag Ob := by have := congrArg Mem.stop hMz; exact this.symm
  have hcz : ∀ {S₁ M₁ : Part}, Carry (PL ba bw bl nw nl ro h3 h1 h2) ag Mz (plS ba bw bl s0) S₁ M₁ → Carry (PL ba bw bl nw nl ro h3 h1 h2) ag M0 S0 S₁ M₁ := fun {S₁ M₁} h => by
    have h' : Carry (PL ba bw bl nw nl ro h3 h1 h2) ag ((Mem.mk M (Zl (PL ba bw bl nw nl ro h3 h1 h2) Try.prog kd ag Ob)).set z (.cells #[.int .u8 x.d, .int .i64 x.a, .int .u64 x.v] 57)).at_ (plS ba bw bl s0) S₁ M₁ := by rw [hMz]; exact h
    exact hc.trans (h'.new hz)
  -- behind a touch
  have hpan : ∀ {S₁ M₁ : Part}, (PL ba bw bl nw nl ro h3 h1 h2).inv S₁ → Carry (PL ba bw bl nw nl ro h3 h1 h2) ag Mz (plS ba bw bl s0) S₁ M₁ → RunsTo (PL ba bw bl nw nl ro h3 h1 h2) ag pc M0 S0 (.panicked [{ v := .iface 130 (.agg #[]), recovered := false }]) ⟨M₁, Zl (PL ba bw bl nw nl ro h3 h1 h2) Try.prog kd ag (fun flag _ S' => flag = true ∧ (PL ba bw bl nw nl ro h3 h1 h2).dd (i, x :: rest, s0.ls.getD i 0) S₁ S')⟩ := fun {S₁ M₁} k1 k2 =>
    hdone M₁ S₁ _ (i, [], 0) _ (hcz k2) k1 ⟨rfl, rfl⟩ (.inr rfl)
  have hnext : ∀ {s1 : Sh} {M₁ M₂ : Part}, Carry (PL ba bw bl nw nl ro h3 h1 h2) ag Mz (plS ba bw bl s0) (plS ba bw bl s1) M₁ → s1.ws.length = nw → s1.ls.length = nl → (∀ b, b ≠ ba → b ≠ bw → b ≠ bl → M₂ b = M₁ b) →
      M₂ ba = some (arB bw (stepT i (s0.ls.getD i 0) x s1).ws (stepT i (s0.ls.getD i 0) x s1).tc (stepT i (s0.ls.getD i 0) x s1).la) → M₂ bw = some (.cells (wordsV (stepT i (s0.ls.getD i 0) x s1).ws) 31) → M₂ bl = some (.cells (wordsV (stepT i (s0.ls.getD i 0) x s1).ls) 31) →
      k + 1 ≤ l.length ∧ Carry (PL ba bw bl nw nl ro h3 h1 h2) ag M0 S0 (plS ba bw bl (stepT i (s0.ls.getD i 0) x s1)) M₂ ∧ ∃ s2, plS ba bw bl (stepT i (s0.ls.getD i 0) x s1) = plS ba bw bl s2 ∧ (s2.ws.length = nw ∧ s2.ls.length = nl) ∧
        (PL ba bw bl nw nl ro h3 h1 h2).tr (i, x :: rest, s0.ls.getD i 0) (plS ba bw bl s1) (l.drop (k + 1)).isEmpty (i, l.drop (k + 1), s2.ls.getD i 0) (plS ba bw bl (stepT i (s0.ls.getD i 0) x s1)) := fun {s1 M₁ M₂} k1 k2 k3 k4 k5 k6 k7 =>
    ⟨hlt', carry_to (hcz k1) k4 k5 k6 k7, stepT i (s0.ls.getD i 0) x s1, rfl, ⟨by rw [(stepT_len i _ x s1).1]; exact k2, by rw [(stepT_len i _ x s1).2]; exact k3⟩, by rw [hrest]; exact ⟨s1, rfl, rfl, rfl, rfl⟩⟩
  have hwrap : IntKind.i64.wrap (((k : Nat) : Int) + 1) = ((k + 1 : Nat) : Int) := by
    simp only [IntKind.wrap, IntKind.signed, IntKind.bits, Bool.true_and]
    split <;> simp_all <;> omega
  repeat (refine e_seq ?_)
  refine e_reg rfl ?_
  refine l_y (v := .pointer (some ⟨z, 0, none⟩)) (y_fieldB rfl Try.underlying57 rfl sz5 rfl) ?_
  refine l_y (v := .int .u8 x.d) (y_loadB rfl ag5 h_z rfl) ?_
  refine l_end ?_
  refine e_then ?_
  refine e_block ?_
  refine e_seq ?_
  refine e_reg rfl ?_
  refine l_y (v := .bool (x.d == 0)) (y_int (p := x.d) (q := 0) rfl rfl rfl) ?_
  refine l_y (v := .bool (x.d == 0)) y_assign ?_
  refine l_end ?_
  refine e_then ?_
  refine e_if (t := x.d == 0) rfl (fun hd0 => ?_) (fun hd0 => ?_)
  · have hd0 : x.d = 0 := by simpa using hd0
    refine e_draw (fun m => m t2 = some (.cells #[.pointer (some ⟨bl, i, none⟩)] 50) ∧ m z = some (.cells #[.int .u8 x.d, .int .i64 x.a, .int .u64 x.v] 57)) [(0, true), (1, true), (2, true), (3, true), (4, false), (5, true), (6, false)] mixed (by kernel_rfl) ⟨h_t2, h_z⟩ (fun c a d v m h => by cases d <;> exact h) ?_
    refine dr_m (v := .pointer (some ⟨bl, i, none⟩)) rfl rfl (fun m hm => y_loadB rfl ag50 hm.1 rfl) ?_
    refine dr_m (v := .iface 133 (.agg #[.pointer (some ⟨ag.a, 0, none⟩)])) rfl rfl (fun m hm => y_move) ?_
    refine dr_m (v := .pointer (some ⟨z, 1, none⟩)) rfl rfl (fun m hm => y_fieldB rfl Try.underlying57 rfl sz3 rfl) ?_
    refine dr_m (v := .int .i64 x.a) rfl rfl (fun m hm => y_loadB rfl ag3 hm.2 rfl) ?_
    refine dr_c rfl rfl (e_invoke (l := [.int .i64 x.a]) rfl mt133R bd107 rfl) (c_oRead x.a rd) ?_
    rintro e m' ⟨S₁, M₁, ⟨s1, rfl, hw1, hl1⟩, hc1, (⟨ws, tc, la, hA, rfl, rfl⟩ | ⟨rfl, rfl⟩)⟩
    case inr =>
      repeat (first | refine w_block rfl ?_ | refine w_then rfl ?_)
      exact body_panic (Mem.le_refl _) (hpan ⟨s1, rfl, hw1, hl1⟩ hc1)
    obtain ⟨rfl, rfl, rfl⟩ := has_inj hA h3
    have k_t2 := hc1.keep t2 _ h_t2 (plS_none.2 (plS_none.1 g2.2)) rfl rfl (ro_open _ _)
    have k_z := hc1.keep z _ h_z (plS_none.2 (plS_none.1 hzS)) rfl rfl (ro_open _ _)
    have m_t2 := plS_none.1 k_t2.2
    have m_z := plS_none.1 k_z.2
    refine ⟨⟨Mem.miss m_t2.1 k_t2.1, Mem.miss m_z.1 k_z.1⟩, ?_⟩
    refine dr_m (v := .pointer (some ⟨bl, i, none⟩)) rfl rfl (fun m hm => y_nilCheck rfl) ?_
    refine dr_d rfl (d_storeB (v := .int .u64 (rdW s1.ws x.a)) (c' := wordsV (s1.ls.set i (rdW s1.ws x.a))) rfl rfl sz31 (Mem.miss h3.n2.symm (hc1.shared _ _ (plS_bl h3 s1))) rfl rfl (by simp [wordsV]; omega) (by rw [← wordsV_set]; rfl)) ⟨Mem.miss m_t2.2.2 (Mem.miss m_t2.1 k_t2.1), Mem.miss m_z.2.2 (Mem.miss m_z.1 k_z.1)⟩ ?_
    refine dr_end ?_
    have hn' := hnext (M₂ := (((⟨M₁, Zl (PL ba bw bl nw nl ro h3 h1 h2) Try.prog kd ag ((PL ba bw bl nw nl ro h3 h1 h2).tr (i, x :: rest, s0.ls.getD i 0) (plS ba bw bl s1))⟩ : Mem).set ba (arB bw s1.ws (tcW s1.ws x.a s1.tc) (laW s1.ws x.a s1.la))).set bl (.cells (wordsV (s1.ls.set i (rdW s1.ws x.a))) 31)).at_) hc1 hw1 hl1 (fun b j1 j2 j3 => by
      show (((⟨M₁, Zl (PL ba bw bl nw nl ro h3 h1 h2) Try.prog kd ag ((PL ba bw bl nw nl ro h3 h1 h2).tr (i, x :: rest, s0.ls.getD i 0) (plS ba bw bl s1))⟩ : Mem).set ba (arB bw s1.ws (tcW s1.ws x.a s1.tc) (laW s1.ws x.a s1.la))).set bl (.cells (wordsV (s1.ls.set i (rdW s1.ws x.a))) 31)) b = _
      rw [Mem.set_ne _ _ j3, Mem.set_ne _ _ j1]) (by
      show (((⟨M₁, Zl (PL ba bw bl nw nl ro h3 h1 h2) Try.prog kd ag ((PL ba bw bl nw nl ro h3 h1 h2).tr (i, x :: rest, s0.ls.getD i 0) (plS ba bw bl s1))⟩ : Mem).set ba (arB bw s1.ws (tcW s1.ws x.a s1.tc) (laW s1.ws x.a s1.la))).set bl (.cells (wordsV (s1.ls.set i (rdW s1.ws x.a))) 31)) ba = _
      rw [Mem.set_ne _ _ h3.n2, Mem.set_same]; unfold stepT; simp [hd0]; try (unfold arB; simp [upW_length])) (by
      show (((⟨M₁, Zl (PL ba bw bl nw nl ro h3 h1 h2) Try.prog kd ag ((PL ba bw bl nw nl ro h3 h1 h2).tr (i, x :: rest, s0.ls.getD i 0) (plS ba bw bl s1))⟩ : Mem).set ba (arB bw s1.ws (tcW s1.ws x.a s1.tc) (laW s1.ws x.a s1.la))).set bl (.cells (wordsV (s1.ls.set i (rdW s1.ws x.a))) 31)) bw = _
      rw [Mem.set_ne _ _ h3.n3, Mem.set_ne _ _ h3.n1.symm]; unfold stepT; simp [hd0]; exact hc1.shared _ _ (plS_bw h3 s1)) (by
      show (((⟨M₁, Zl (PL ba bw bl nw nl ro h3 h1 h2) Try.prog kd ag ((PL ba bw bl nw nl ro h3 h1 h2).tr (i, x :: rest, s0.ls.getD i 0) (plS ba bw bl s1))⟩ : Mem).set ba (arB bw s1.ws (tcW s1.ws x.a s1.tc) (laW s1.ws x.a s1.la))).set bl (.cells (wordsV (s1.ls.set i (rdW s1.ws x.a))) 31)) bl = _
      rw [Mem.set_same]; unfold stepT; simp [hd0])
    refine w_block rfl ?_
    refine w_block rfl ?_
    refine e_then ?_
    refine e_reg rfl ?_
    refine l_y (v := .int .i64 ((k : Nat) : Int)) y_move ?_
    refine l_y (v := .int .i64 ((k + 1 : Nat) : Int)) (y_int (p := ((k : Nat) : Int)) (q := 1) rfl rfl (by rw [← hwrap]; rfl)) ?_
    refine l_y (v := .int .i64 ((k + 1 : Nat) : Int)) y_assign ?_
    refine l_end ?_
    refine Sp.w_round (σ := PS (PL ba bw bl nw nl ro h3 h1 h2)) (s := ⟨k, M, plS ba bw bl s0, Ob⟩) (s' := ⟨k + 1, (((⟨M₁, Zl (PL ba bw bl nw nl ro h3 h1 h2) Try.prog kd ag ((PL ba bw bl nw nl ro h3 h1 h2).tr (i, x :: rest, s0.ls.getD i 0) (plS ba bw bl s1))⟩ : Mem).set ba (arB bw s1.ws (tcW s1.ws x.a s1.tc) (laW s1.ws x.a s1.la))).set bl (.cells (wordsV (s1.ls.set i (rdW s1.ws x.a))) 31)).at_, plS ba bw bl (stepT i (s0.ls.getD i 0) x s1), (PL ba bw bl nw nl ro h3 h1 h2).tr (i, x :: rest, s0.ls.getD i 0) (plS ba bw bl s1)⟩) ?_ ?_ ?_ ?_
    · exact hn'
    · dsimp only; omega
    · rfl
    · exact fun _ => live_cons rfl (live_cons rfl (live_cons rfl (live_cons rfl live_nil)))
  · refine e_seq ?_
    refine e_reg rfl ?_
    refine l_y (v := .bool (x.d == 1)) (y_int (p := x.d) (q := 1) rfl rfl rfl) ?_
    refine l_y (v := .bool (x.d == 1)) y_assign ?_
    refine l_end ?_
    refine e_then ?_
    have hd0 : x.d ≠ 0 := by simpa using hd0
    refine e_if (t := x.d == 1) rfl (fun hd1 => ?_) (fun hd1 => ?_)
    · have hd1 : x.d = 1 := by simpa using hd1
      refine e_draw (fun m => m t2 = some (.cells #[.pointer (some ⟨bl, i, none⟩)] 50) ∧ m z = some (.cells #[.int .u8 x.d, .int .i64 x.a, .int .u64 x.v] 57)) [(0, true), (1, true), (2, true), (3, true), (4, true), (6, true), (7, true), (9, true), (10, true), (11, true), (5, false), (8, true), (12, false)] mixed (by kernel_rfl) ⟨h_t2, h_z⟩ (fun c a d v m h => by cases d <;> exact h) ?_
      refine dr_m (v := .iface 133 (.agg #[.pointer (some ⟨ag.a, 0, none⟩)])) rfl rfl (fun m hm => y_move) ?_
      refine dr_m (v := .pointer (some ⟨z, 1, none⟩)) rfl rfl (fun m hm => y_fieldB rfl Try.underlying57 rfl sz3 rfl) ?_
      refine dr_m (v := .int .i64 x.a) rfl rfl (fun m hm => y_loadB rfl ag3 hm.2 rfl) ?_
      refine dr_m (v := .pointer (some ⟨bl, i, none⟩)) rfl rfl (fun m hm => y_loadB rfl ag50 hm.1 rfl) ?_
      refine dr_m (v := .pointer (some ⟨bl, i, none⟩)) rfl rfl (fun m hm => y_nilCheck rfl) ?_
      refine dr_m (v := .pointer (some ⟨z, 2, none⟩)) rfl rfl (fun m hm => y_fieldB rfl Try.underlying57 rfl sz31 rfl) ?_
      refine dr_m (v := .int .u64 x.v) rfl rfl (fun m hm => y_loadB rfl ag31 hm.2 rfl) ?_
      refine dr_m (v := .func (.method "Write") #[.iface 133 (.agg #[.pointer (some ⟨ag.a, 0, none⟩)])] #[]) rfl rfl (fun m hm => y_makeFunc (l := [.iface 133 (.agg #[.pointer (some ⟨ag.a, 0, none⟩)])]) (k := []) rfl rfl) ?_
      refine dr_m (v := .func (.method "Write") #[.iface 133 (.agg #[.pointer (some ⟨ag.a, 0, none⟩)])] #[]) rfl rfl (fun m hm => y_nilCheckM rfl rfl mt133W (so133 _)) ?_
      refine dr_m (v := .iface 133 (.agg #[.pointer (some ⟨ag.a, 0, none⟩)])) rfl rfl (fun m hm => y_move) ?_
      refine dr_y (v := .int .u64 (s0.ls.getD i 0)) rfl rfl (y_loadB rfl ag31 h_bl (wordsV_get (by omega))) ⟨h_t2, h_z⟩ ?_
      refine dr_m (v := .int .u64 (IntKind.u64.wrap (s0.ls.getD i 0 + x.v))) rfl rfl (fun m hm => y_int (p := s0.ls.getD i 0) (q := x.v) rfl rfl rfl) ?_
      refine dr_c rfl rfl (e_invoke (l := [.int .i64 x.a, .int .u64 (IntKind.u64.wrap (s0.ls.getD i 0 + x.v))]) rfl mt133W bd109 rfl) (c_oWrite x.a (IntKind.u64.wrap (s0.ls.getD i 0 + x.v)) rd) ?_
      rintro e m' ⟨S₁, M₁, ⟨s1, rfl, hw1, hl1⟩, hc1, (⟨ws, tc, la, hA, rfl, rfl⟩ | ⟨rfl, rfl⟩)⟩
      case inr =>
        repeat (first | refine w_block rfl ?_ | refine w_then rfl ?_)
        exact body_panic (Mem.le_refl _) (hpan ⟨s1, rfl, hw1, hl1⟩ hc1)
      obtain ⟨rfl, rfl, rfl⟩ := has_inj hA h3
      have k_t2 := hc1.keep t2 _ h_t2 (plS_none.2 (plS_none.1 g2.2)) rfl rfl (ro_open _ _)
      have k_z := hc1.keep z _ h_z (plS_none.2 (plS_none.1 hzS)) rfl rfl (ro_open _ _)
      have m_t2 := plS_none.1 k_t2.2
      have m_z := plS_none.1 k_z.2
      refine ⟨⟨Mem.miss m_t2.2.1 (Mem.miss m_t2.1 k_t2.1), Mem.miss m_z.2.1 (Mem.miss m_z.1 k_z.1)⟩, ?_⟩
      refine dr_end ?_
      have hn' := hnext (M₂ := (((⟨M₁, Zl (PL ba bw bl nw nl ro h3 h1 h2) Try.prog kd ag ((PL ba bw bl nw nl ro h3 h1 h2).tr (i, x :: rest, s0.ls.getD i 0) (plS ba bw bl s1))⟩ : Mem).set ba (arB bw s1.ws (tcW s1.ws x.a s1.tc) (laW s1.ws x.a s1.la))).set bw (.cells (wordsV (upW s1.ws x.a (fun _ => IntKind.u64.wrap (s0.ls.getD i 0 + x.v)))) 31)).at_) hc1 hw1 hl1 (fun b j1 j2 j3 => by
        show (((⟨M₁, Zl (PL ba bw bl nw nl ro h3 h1 h2) Try.prog kd ag ((PL ba bw bl nw nl ro h3 h1 h2).tr (i, x :: rest, s0.ls.getD i 0) (plS ba bw bl s1))⟩ : Mem).set ba (arB bw s1.ws (tcW s1.ws x.a s1.tc) (laW s1.ws x.a s1.la))).set bw (.cells (wordsV (upW s1.ws x.a (fun _ => IntKind.u64.wrap (s0.ls.getD i 0 + x.v)))) 31)) b = _
        rw [Mem.set_ne _ _ j2, Mem.set_ne _ _ j1]) (by
        show (((⟨M₁, Zl (PL ba bw bl nw nl ro h3 h1 h2) Try.prog kd ag ((PL ba bw bl nw nl ro h3 h1 h2).tr (i, x :: rest, s0.ls.getD i 0) (plS ba bw bl s1))⟩ : Mem).set ba (arB bw s1.ws (tcW s1.ws x.a s1.tc) (laW s1.ws x.a s1.la))).set bw (.cells (wordsV (upW s1.ws x.a (fun _ => IntKind.u64.wrap (s0.ls.getD i 0 + x.v)))) 31)) ba = _
        rw [Mem.set_ne _ _ h3.n1, Mem.set_same]; unfold stepT; simp [hd1]; try (unfold arB; simp [upW_length])) (by
        show (((⟨M₁, Zl (PL ba bw bl nw nl ro h3 h1 h2) Try.prog kd ag ((PL ba bw bl nw nl ro h3 h1 h2).tr (i, x :: rest, s0.ls.getD i 0) (plS ba bw bl s1))⟩ : Mem).set ba (arB bw s1.ws (tcW s1.ws x.a s1.tc) (laW s1.ws x.a s1.la))).set bw (.cells (wordsV (upW s1.ws x.a (fun _ => IntKind.u64.wrap (s0.ls.getD i 0 + x.v)))) 31)) bw = _
        rw [Mem.set_same]; unfold stepT; simp [hd1]) (by
        show (((⟨M₁, Zl (PL ba bw bl nw nl ro h3 h1 h2) Try.prog kd ag ((PL ba bw bl nw nl ro h3 h1 h2).tr (i, x :: rest, s0.ls.getD i 0) (plS ba bw bl s1))⟩ : Mem).set ba (arB bw s1.ws (tcW s1.ws x.a s1.tc) (laW s1.ws x.a s1.la))).set bw (.cells (wordsV (upW s1.ws x.a (fun _ => IntKind.u64.wrap (s0.ls.getD i 0 + x.v)))) 31)) bl = _
        rw [Mem.set_ne _ _ h3.n3.symm, Mem.set_ne _ _ h3.n2.symm]; unfold stepT; simp [hd1]; exact hc1.shared _ _ (plS_bl h3 s1))
      refine w_block rfl ?_
      refine w_block rfl ?_
      refine e_then ?_
      refine e_reg rfl ?_
      refine l_y (v := .int .i64 ((k : Nat) : Int)) y_move ?_
      refine l_y (v := .int .i64 ((k + 1 : Nat) : Int)) (y_int (p := ((k : Nat) : Int)) (q := 1) rfl rfl (by rw [← hwrap]; rfl)) ?_
      refine l_y (v := .int .i64 ((k + 1 : Nat) : Int)) y_assign ?_
      refine l_end ?_
      refine Sp.w_round (σ := PS (PL ba bw bl nw nl ro h3 h1 h2)) (s := ⟨k, M, plS ba bw bl s0, Ob⟩) (s' := ⟨k + 1, (((⟨M₁, Zl (PL ba bw bl nw nl ro h3 h1 h2) Try.prog kd ag ((PL ba bw bl nw nl ro h3 h1 h2).tr (i, x :: rest, s0.ls.getD i 0) (plS ba bw bl s1))⟩ : Mem).set ba (arB bw s1.ws (tcW s1.ws x.a s1.tc) (laW s1.ws x.a s1.la))).set bw (.cells (wordsV (upW s1.ws x.a (fun _ => IntKind.u64.wrap (s0.ls.getD i 0 + x.v)))) 31)).at_, plS ba bw bl (stepT i (s0.ls.getD i 0) x s1), (PL ba bw bl nw nl ro h3 h1 h2).tr (i, x :: rest, s0.ls.getD i 0) (plS ba bw bl s1)⟩) ?_ ?_ ?_ ?_
      · exact hn'
      · dsimp only; omega
      · rfl
      · exact fun _ => live_cons rfl (live_cons rfl (live_cons rfl (live_cons rfl live_nil)))
    · have hd1 : x.d ≠ 1 := by simpa using hd1
      refine e_draw (fun m => m t2 = some (.cells #[.pointer (some ⟨bl, i, none⟩)] 50) ∧ m z = some (.cells #[.int .u8 x.d, .int .i64 x.a, .int .u64 x.v] 57)) [(0, true), (1, true), (2, true), (3, true), (4, true), (5, false), (6, true), (7, false)] mixed (by kernel_rfl) ⟨h_t2, h_z⟩ (fun c a d v m h => by cases d <;> exact h) ?_
      refine dr_m (v := .pointer (some ⟨bl, i, none⟩)) rfl rfl (fun m hm => y_loadB rfl ag50 hm.1 rfl) ?_
      refine dr_m (v := .iface 133 (.agg #[.pointer (some ⟨ag.a, 0, none⟩)])) rfl rfl (fun m hm => y_move) ?_
      refine dr_m (v := .pointer (some ⟨z, 1, none⟩)) rfl rfl (fun m hm => y_fieldB rfl Try.underlying57 rfl sz3 rfl) ?_
      refine dr_m (v := .int .i64 x.a) rfl rfl (fun m hm => y_loadB rfl ag3 hm.2 rfl) ?_
      refine dr_m (v := .func (.func 53) #[] #[.pointer (some ⟨z, 0, none⟩)]) rfl rfl (fun m hm => y_makeFunc (l := []) (k := [.pointer (some ⟨z, 0, none⟩)]) rfl rfl) ?_
      refine dr_c rfl rfl (e_invoke (l := [.int .i64 x.a, .func (.func 53) #[] #[.pointer (some ⟨z, 0, none⟩)]]) rfl mt133U bd108 rfl) (c_oUpdate x.a 53 [] [.pointer (some ⟨z, 0, none⟩)] (fun _ w => IntKind.u64.wrap (w + x.v)) bd53 rd (fun S₁ M₁ ws tc la j1 j2 j3 m1 j4 => ?_)) ?_
      · have k_z := j2.keep z _ h_z (plS_none.2 (plS_none.1 hzS)) rfl rfl (ro_open _ _)
        obtain ⟨s1, rfl, _, _⟩ := j1
        exact c_add z x.d x.a x.v _ m1 (j4.at (by simpa using (plS_none.1 k_z.2).1) k_z.1)
      rintro e m' ⟨S₁, M₁, ⟨s1, rfl, hw1, hl1⟩, hc1, (⟨ws, tc, la, hA, rfl, rfl⟩ | ⟨rfl, rfl⟩)⟩
      case inr =>
        repeat (first | refine w_block rfl ?_ | refine w_then rfl ?_)
        exact body_panic (Mem.le_refl _) (hpan ⟨s1, rfl, hw1, hl1⟩ hc1)
      obtain ⟨rfl, rfl, rfl⟩ := has_inj hA h3
      have k_t2 := hc1.keep t2 _ h_t2 (plS_none.2 (plS_none.1 g2.2)) rfl rfl (ro_open _ _)
      have k_z := hc1.keep z _ h_z (plS_none.2 (plS_none.1 hzS)) rfl rfl (ro_open _ _)
      have m_t2 := plS_none.1 k_t2.2
      have m_z := plS_none.1 k_z.2
      refine ⟨⟨Mem.miss m_t2.2.1 (Mem.miss m_t2.1 k_t2.1), Mem.miss m_z.2.1 (Mem.miss m_z.1 k_z.1)⟩, ?_⟩
      refine dr_m (v := .pointer (some ⟨bl, i, none⟩)) rfl rfl (fun m hm => y_nilCheck rfl) ?_
      refine dr_d rfl (d_storeB (v := .int .u64 (rdW s1.ws x.a)) (c' := wordsV (s1.ls.set i (rdW s1.ws x.a))) rfl rfl sz31 (Mem.miss h3.n3.symm (Mem.miss h3.n2.symm (hc1.shared _ _ (plS_bl h3 s1)))) rfl rfl (by simp [wordsV]; omega) (by rw [← wordsV_set]; rfl)) ⟨Mem.miss m_t2.2.2 (Mem.miss m_t2.2.1 (Mem.miss m_t2.1 k_t2.1)), Mem.miss m_z.2.2 (Mem.miss m_z.2.1 (Mem.miss m_z.1 k_z.1))⟩ ?_
      refine dr_end ?_
      have hn' := hnext (M₂ := ((((⟨M₁, Zl (PL ba bw bl nw nl ro h3 h1 h2) Try.prog kd ag ((PL ba bw bl nw nl ro h3 h1 h2).tr (i, x :: rest, s0.ls.getD i 0) (plS ba bw bl s1))⟩ : Mem).set ba (arB bw s1.ws (tcW s1.ws x.a s1.tc) (laW s1.ws x.a s1.la))).set bw (.cells (wordsV (upW s1.ws x.a (fun w => IntKind.u64.wrap (w + x.v)))) 31)).set bl (.cells (wordsV (s1.ls.set i (rdW s1.ws x.a))) 31)).at_) hc1 hw1 hl1 (fun b j1 j2 j3 => by
        show ((((⟨M₁, Zl (PL ba bw bl nw nl ro h3 h1 h2) Try.prog kd ag ((PL ba bw bl nw nl ro h3 h1 h2).tr (i, x :: rest, s0.ls.getD i 0) (plS ba bw bl s1))⟩ : Mem).set ba (arB bw s1.ws (tcW s1.ws x.a s1.tc) (laW s1.ws x.a s1.la))).set bw (.cells (wordsV (upW s1.ws x.a (fun w => IntKind.u64.wrap (w + x.v)))) 31)).set bl (.cells (wordsV (s1.ls.set i (rdW s1.ws x.a))) 31)) b = _
        rw [Mem.set_ne _ _ j3, Mem.set_ne _ _ j2, Mem.set_ne _ _ j1]) (by
        show ((((⟨M₁, Zl (PL ba bw bl nw nl ro h3 h1 h2) Try.prog kd ag ((PL ba bw bl nw nl ro h3 h1 h2).tr (i, x :: rest, s0.ls.getD i 0) (plS ba bw bl s1))⟩ : Mem).set ba (arB bw s1.ws (tcW s1.ws x.a s1.tc) (laW s1.ws x.a s1.la))).set bw (.cells (wordsV (upW s1.ws x.a (fun w => IntKind.u64.wrap (w + x.v)))) 31)).set bl (.cells (wordsV (s1.ls.set i (rdW s1.ws x.a))) 31)) ba = _
        rw [Mem.set_ne _ _ h3.n2, Mem.set_ne _ _ h3.n1, Mem.set_same]; unfold stepT; simp [hd0, hd1]; try (unfold arB; simp [upW_length])) (by
        show ((((⟨M₁, Zl (PL ba bw bl nw nl ro h3 h1 h2) Try.prog kd ag ((PL ba bw bl nw nl ro h3 h1 h2).tr (i, x :: rest, s0.ls.getD i 0) (plS ba bw bl s1))⟩ : Mem).set ba (arB bw s1.ws (tcW s1.ws x.a s1.tc) (laW s1.ws x.a s1.la))).set bw (.cells (wordsV (upW s1.ws x.a (fun w => IntKind.u64.wrap (w + x.v)))) 31)).set bl (.cells (wordsV (s1.ls.set i (rdW s1.ws x.a))) 31)) bw = _
        rw [Mem.set_ne _ _ h3.n3, Mem.set_same]; unfold stepT; simp [hd0, hd1]) (by
        show ((((⟨M₁, Zl (PL ba bw bl nw nl ro h3 h1 h2) Try.prog kd ag ((PL ba bw bl nw nl ro h3 h1 h2).tr (i, x :: rest, s0.ls.getD i 0) (plS ba bw bl s1))⟩ : Mem).set ba (arB bw s1.ws (tcW s1.ws x.a s1.tc) (laW s1.ws x.a s1.la))).set bw (.cells (wordsV (upW s1.ws x.a (fun w => IntKind.u64.wrap (w + x.v)))) 31)).set bl (.cells (wordsV (s1.ls.set i (rdW s1.ws x.a))) 31)) bl = _
        rw [Mem.set_same]; unfold stepT; simp [hd0, hd1])
      refine w_block rfl ?_
      refine w_block rfl ?_
      refine e_then ?_
      refine e_reg rfl ?_
      refine l_y (v := .int .i64 ((k : Nat) : Int)) y_move ?_
      refine l_y (v := .int .i64 ((k + 1 : Nat) : Int)) (y_int (p := ((k : Nat) : Int)) (q := 1) rfl rfl (by rw [← hwrap]; rfl)) ?_
      refine l_y (v := .int .i64 ((k + 1 : Nat) : Int)) y_assign ?_
      refine l_end ?_
      refine Sp.w_round (σ := PS (PL ba bw bl nw nl ro h3 h1 h2)) (s := ⟨k, M, plS ba bw bl s0, Ob⟩) (s' := ⟨k + 1, ((((⟨M₁, Zl (PL ba bw bl nw nl ro h3 h1 h2) Try.prog kd ag ((PL ba bw bl nw nl ro h3 h1 h2).tr (i, x :: rest, s0.ls.getD i 0) (plS ba bw bl s1))⟩ : Mem).set ba (arB bw s1.ws (tcW s1.ws x.a s1.tc) (laW s1.ws x.a s1.la))).set bw (.cells (wordsV (upW s1.ws x.a (fun w => IntKind.u64.wrap (w + x.v)))) 31)).set bl (.cells (wordsV (s1.ls.set i (rdW s1.ws x.a))) 31)).at_, plS ba bw bl (stepT i (s0.ls.getD i 0) x s1), (PL ba bw bl nw nl ro h3 h1 h2).tr (i, x :: rest, s0.ls.getD i 0) (plS ba bw bl s1)⟩) ?_ ?_ ?_ ?_
      · exact hn'
      · dsimp only; omega
      · rfl
      · exact fun _ => live_cons rfl (live_cons rfl (live_cons rfl (live_cons rfl live_nil)))
end
end Go.Proofs.Ytpgooljdodijlaa
