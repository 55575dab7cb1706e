/-
  What is proved: births of agents that play; the slices of the one who steps them; the document's step beside its memory. Conditions: those that each theorem names.
-/
import Derived.Test.YtpgooljdodijlaaCZP
namespace Go.Proofs.Ytpgooljdodijlaa
open Go Go.Sp Go.Conc Go.RowKit
attribute [local irreducible] Code.wps OpsS OpsL Oper.wps Sem.wpm CallM RunM
set_option linter.unusedSimpArgs false
set_option linter.unusedVariables false
section
variable {ba bw bl nw nl : Nat} {W : World} {h3 : Three ba bw bl} {h2 : ∀ b o, roW W b = some o → b ≠ ba ∧ b ≠ bw ∧ b ≠ bl}
variable {rs : List Rw} {gs : List Ag} {ps : List (Nat × Int)} {s : Sh} {tab : Nat → Option (Ag × (Nat × List Tch × Int))} {M O : Part} {N : Nat} {Post : Value → World → Prop}
/-- One more is born. -/
theorem play_birth {st : Stp} {k t1 t2 : Nat} {r : Rw} (H : Pl W ba bw bl nw nl h3 h2 rs gs ps s tab M O) (hk : rs.length = k) (hkl : k < nl) (hrow : RowT (roW W) r.po r.l) (hbig : r.l.length < 2 ^ 62) (hls : s.ls[k]? = some 0)
    (h11 : (Mem.mk M st) t1 = none) (h12 : ((Mem.mk M st).set t1 (.cells #[r.v] 49)) t2 = none) (hst : st = Well (PW W ba bw bl nw nl h3 h2) Try.prog kd N W Post tab) :
    CallM Try.prog 11 #[.iface 23 (.pointer (some ⟨ba, 0, none⟩)), .func (.func 52) #[] #[.pointer (some ⟨t1, 0, none⟩), .pointer (some ⟨t2, 0, none⟩)]] (((Mem.mk M st).set t1 (.cells #[r.v] 49)).set t2 (.cells #[.pointer (some ⟨bl, k, none⟩)] 50)) (fun e m' => ∃ ag M' tab',
      e = .returned (.tuple #[.pointer (some ⟨ag.a, 0, none⟩), .int .i64 0]) ∧ m' = ⟨M', Well (PW W ba bw bl nw nl h3 h2) Try.prog kd N W Post tab'⟩ ∧ Pl W ba bw bl nw nl h3 h2 (rs ++ [r]) (gs ++ [ag]) (ps ++ [(0, 0)]) s tab' M' O) := by
  subst hst
  obtain ⟨n12, h12'⟩ := Mem.none_set h12
  have up : ∀ b o, M b = some o → (((Mem.mk M (Well (PW W ba bw bl nw nl h3 h2) Try.prog kd N W Post tab)).set t1 (.cells #[r.v] 49)).set t2 (.cells #[.pointer (some ⟨bl, k, none⟩)] 50)) b = some o := up_new (up_new (fun _ _ h => h) h11) h12
  have nS : ∀ t, (Mem.mk M (Well (PW W ba bw bl nw nl h3 h2) Try.prog kd N W Post tab)) t = none → plS ba bw bl s t = none := fun t ht => by
    cases e : plS ba bw bl s t with
    | none => rfl
    | some o => have := H.hv.mn.sh t o e; rw [show M t = none from ht] at this; cases this
  let pc : Part := fun b => if b = t1 then some (.cells #[r.v] 49) else if b = t2 then some (.cells #[.pointer (some ⟨bl, k, none⟩)] 50) else none
  have pc_some : ∀ {b o}, pc b = some o → (b = t1 ∧ o = .cells #[r.v] 49) ∨ (b = t2 ∧ o = .cells #[.pointer (some ⟨bl, k, none⟩)] 50) := fun {b o} h => by
    simp only [pc] at h
    split at h
    · rename_i z; exact .inl ⟨z, (Option.some.inj h).symm⟩
    · split at h
      · rename_i z; exact .inr ⟨z, (Option.some.inj h).symm⟩
      · cases h
  have pc11 : pc t1 = some (.cells #[r.v] 49) := if_pos rfl
  have pc12 : pc t2 = some (.cells #[.pointer (some ⟨bl, k, none⟩)] 50) := by simp only [pc]; rw [if_neg n12, if_pos trivial]
  have pcM : ∀ b, (∃ o, M b = some o) → pc b = none := fun b ⟨o, h⟩ => by
    cases e : pc b with
    | none => rfl
    | some y => rcases pc_some e with ⟨rfl, _⟩ | ⟨rfl, _⟩
                · rw [show M b = none from h11] at h; cases h
                · rw [show M b = none from h12'] at h; cases h
  have H2 := H.hv.mn.own (M' := (((Mem.mk M (Well (PW W ba bw bl nw nl h3 h2) Try.prog kd N W Post tab)).set t1 (.cells #[r.v] 49)).set t2 (.cells #[.pointer (some ⟨bl, k, none⟩)] 50)).at_) (fun b o h _ => up b o h)
  have hgd : s.ls.getD k 0 = 0 := by rw [List.getD_eq_getElem?_getD, hls]; rfl
  refine (H2.birth (pc := pc) (fs := []) (cs' := [.pointer (some ⟨t1, 0, none⟩), .pointer (some ⟨t2, 0, none⟩)]) (Ob := fun flag st S' => flag = r.l.isEmpty ∧ st = ((k, r.l, 0) : Nat × List Tch × Int) ∧ S' = plS ba bw bl s) bd52 (fun b o h => ?_) (fun b o h => ?_) (fun a ha => pcM _ (H.hv.mn.agM ha)) (fun ag hmi hSa hpa hra M' e1 e2 e3 e4 => ?_)).mono ?_
  · rcases pc_some h with ⟨rfl, rfl⟩ | ⟨rfl, rfl⟩
    · exact Mem.miss n12.symm (Mem.hit _ _ _)
    · exact Mem.hit _ _ _
  · rcases pc_some h with ⟨rfl, rfl⟩ | ⟨rfl, rfl⟩
    · exact ⟨nS _ h11, rfl, rfl, ro_open _ _⟩
    · exact ⟨nS _ h12', rfl, rfl, ro_open _ _⟩
  · refine c_prog (h3 := h3) (i := k) (n := r.l.length) (c := r.c) (po := r.po) (l := r.l) (s00 := s) hmi hkl rfl hbig ⟨fun b o i1 i2 _ _ _ => ⟨i1, i2⟩, e2, e3, e4, hSa⟩ rfl ⟨H.lw, H.ll⟩ ⟨rfl, ?_, rfl⟩ ⟨e1 _ _ pc11, nS _ h11⟩ ⟨e1 _ _ pc12, nS _ h12'⟩ (fun M2 hM2 => hrow.up fun b o h => ?_)
    · rw [hgd]
    · obtain ⟨c, e, f, _, h0, rfl⟩ := roW_some h
      exact hM2 b c e c.size (e3 b _ h) (.inr h)
  · rintro e m' ⟨ag, flag, st', S', M', tab', ⟨rfl, rfl, rfl⟩, rfl, hfa, hMn, hK, rfl⟩
    refine ⟨ag, M', tab', rfl, rfl, by simp [H.n1], by simp [H.n2], ⟨?_, fun b o h => ?_⟩, fun j p hp => ?_, H.lw, H.ll⟩
    · have e2 := stsP_snoc rs ps 0 r (0, 0) H.n2.symm
      rw [Nat.zero_add, hk] at e2
      have e5 : (if r.l.isEmpty = true then none else some (k, r.l, 0) : Option (Nat × List Tch × Int)) = stP k r (0, 0) := by
        unfold stP
        by_cases hz : r.l = []
        · rw [if_pos (by rw [hz]; rfl), if_pos (by rw [hz]; exact Nat.le_refl 0)]
        · rw [if_neg (by rw [List.isEmpty_iff]; exact hz), if_neg (by show ¬ r.l.length ≤ 0; have := List.length_pos_iff.2 hz; omega)]
          rfl
      have e6 : stsP 0 rs ps ++ [(if r.l.isEmpty = true then none else some (k, r.l, 0) : Option (Nat × List Tch × Int))] = stsP 0 (rs ++ [r]) (ps ++ [(0, 0)]) := by rw [e2]; exact congrArg (fun z => stsP 0 rs ps ++ [z]) e5
      rw [← e6]
      exact hMn
    · obtain ⟨i1, i2, i3, i4, i5⟩ := H.hv.own b o h
      obtain ⟨k1, k2⟩ := hK b o (up b o i1) i2 (pcM b ⟨o, i1⟩) i3 i4
      refine ⟨k1, k2, i3, i4, fun a ha e => ?_⟩
      rcases List.mem_append.1 ha with ha | ha
      · exact i5 a ha e
      · obtain rfl : a = ag := by simpa using ha
        have := up b o i1
        rw [e, show _ = none from hfa] at this; cases this
    · by_cases hj : j < ps.length
      · rw [List.getElem?_append_left hj] at hp
        exact H.ls j p hp
      · have hl := (List.getElem?_eq_some_iff.1 hp).1
        simp at hl
        obtain rfl : j = ps.length := by omega
        rw [List.getElem?_append_right (Nat.le_refl _)] at hp
        simp at hp
        rw [← hp, H.n2, hk]
        exact hls
/-- The slices. -/
structure Own3 (O : Part) (gs : List Ag) (rs : List Rw) (pw : List (Nat × Int)) (mw : List Int) (av : Value) (ab : Option Nat) (wv : Value) (wb : Option Nat) (mv : Value) (mb : Option Nat) : Prop where
  sa : SlB (pm O) 22 1 av gs.length ab (ptrs gs)
  sw : SlB (pm O) 52 3 wv pw.length wb (progsV rs pw)
  sm : SlB (pm O) 31 1 mv mw.length mb (wordsL mw)
  d1 : ab ≠ wb ∨ ab = none
  d2 : ab ≠ mb ∨ ab = none
  d3 : wb ≠ mb ∨ wb = none
variable {pw : List (Nat × Int)} {mw : List Int} {av wv mv : Value} {ab wb mb : Option Nat}
theorem Own3.new (T : Own3 O gs rs pw mw av ab wv wb mv mb) {b : Nat} {x : Obj} (hb : O b = none) : Own3 (O.put b x) gs rs pw mw av ab wv wb mv mb :=
  ⟨slB_new T.sa hb, slB_new T.sw hb, slB_new T.sm hb, T.d1, T.d2, T.d3⟩
/-- Memory's slice is another. -/
theorem Own3.mem (T : Own3 O gs rs pw mw av ab wv wb mv mb) {b c : Nat} {rest : List Value} {mw' : List Int} (hb : O b = none) (h1 : (wordsL mw' ++ rest).length = c * 1) (h2 : mw'.length ≤ c) :
    Own3 (O.put b (.cells (wordsL mw' ++ rest).toArray 31)) gs rs pw mw' av ab wv wb (.slice (some ⟨b, 0, none⟩) mw'.length c) (some b) := by
  have no : ∀ {e sz v n bo l}, SlB (pm O) e sz v n bo l → bo ≠ some b := fun h e => by
    obtain ⟨c, hc⟩ := h.cells e
    rw [show (pm O) b = O b from rfl, hb] at hc; cases hc
  exact ⟨slB_new T.sa hb, slB_new T.sw hb, .inr ⟨b, c, rest, rfl, rfl, Part.put_same _ _ _, by simp [wordsL], h1, h2⟩, T.d1, .inl (no T.sa), .inl (no T.sw)⟩
/-- A program is written. -/
theorem Own3.setW (T : Own3 O gs rs pw mw av ab wv wb mv mb) {b : Nat} {rest : List Value} {j : Nat} {p : Nat × Int} (hlen : rs.length = pw.length) (hb : wb = some b) (hO : O b = some (.cells (progsV rs pw ++ rest).toArray 52)) :
    Own3 (O.put b (.cells (progsV rs (pw.set j p) ++ rest).toArray 52)) gs rs (pw.set j p) mw av ab wv wb mv mb := by
  subst hb
  refine ⟨slB_other T.sa fun e => ?_, ?_, slB_other T.sm fun e => ?_, T.d1, T.d2, T.d3⟩
  · rcases T.d1 with h | h
    · exact h e
    · rw [h] at e; cases e
  · rcases T.sw with ⟨q, _⟩ | ⟨b', c, rest', q1, q2, q3, q4, q5, q6⟩
    · cases q
    · obtain rfl : b = b' := Option.some.inj q1
      have hr : rest' = rest := by
        have e := (show O b = _ from q3).symm.trans hO
        have e2 := congrArg Array.toList (Obj.cells.inj (Option.some.inj e)).1
        simpa using e2
      subst hr
      have hl : (progsV rs (pw.set j p)).length = (progsV rs pw).length := by rw [progsV_len _ _ (by simpa using hlen), progsV_len _ _ hlen, List.length_set]
      refine .inr ⟨b, c, rest', rfl, by rw [List.length_set]; exact q2, Part.put_same _ _ _, progsV_len _ _ (by simpa using hlen), ?_, by rw [List.length_set]; exact q6⟩
      rw [List.length_append] at q5
      rw [List.length_append, hl]
      exact q5
  · rcases T.d3 with h | h
    · exact h e.symm
    · cases h
theorem dsym {a b : Option Nat} (h : a ≠ b ∨ a = none) : b ≠ a ∨ b = none := by
  cases b with
  | none => exact .inr rfl
  | some b => exact .inl fun e => by rcases h with h | h <;> rw [← e] at h <;> simp at h
/-- One more agent. -/
theorem Own3.appA {rs' : List Rw} {gs' : List Ag} {a : Ag} {v' : Value} {m' : Mem} {st : Stp} (T : Own3 O gs' rs' pw mw av ab wv wb mv mb) (H : Pl W ba bw bl nw nl h3 h2 rs gs ps s tab M O) (h : Appended ⟨M, st⟩ 22 1 gs'.length 1 ab (ptrs gs') [.pointer (some ⟨a.a, 0, none⟩)] v' m') :
    ∃ M' O' ab', m' = ⟨M', st⟩ ∧ Pl W ba bw bl nw nl h3 h2 rs gs ps s tab M' O' ∧ Own3 O' (gs' ++ [a]) rs' pw mw v' ab' wv wb mv mb := by
  obtain ⟨b, M', O', rfl, k1, k2, k3, k4, k5⟩ := H.hv.append T.sa (by simp) (by simp) h
  obtain ⟨j1, j2⟩ := H.hv.keepOther T.sw (dsym T.d1) k3 k4
  obtain ⟨i1, i2⟩ := H.hv.keepOther T.sm (dsym T.d2) k3 k4
  exact ⟨M', O', some b, rfl, ⟨H.n1, H.n2, k1, H.ls, H.lw, H.ll⟩, by rw [List.length_append, ptrs_snoc]; exact k2, j1, i1, .inl j2.symm, .inl i2.symm, T.d3⟩
/-- One more program. -/
theorem Own3.appW {gs' : List Ag} {rs' : List Rw} {r : Rw} {p : Nat × Int} {v' : Value} {m' : Mem} {st : Stp} (T : Own3 O gs' rs' pw mw av ab wv wb mv mb) (hlen : rs'.length = pw.length) (H : Pl W ba bw bl nw nl h3 h2 rs gs ps s tab M O) (h : Appended ⟨M, st⟩ 52 3 pw.length 1 wb (progsV rs' pw) (progV r p) v' m') :
    ∃ M' O' wb', m' = ⟨M', st⟩ ∧ Pl W ba bw bl nw nl h3 h2 rs gs ps s tab M' O' ∧ Own3 O' gs' (rs' ++ [r]) (pw ++ [p]) mw av ab v' wb' mv mb := by
  obtain ⟨b, M', O', rfl, k1, k2, k3, k4, k5⟩ := H.hv.append T.sw (by simp [progV]) (by simp [progV]) h
  obtain ⟨j1, j2⟩ := H.hv.keepOther T.sa T.d1 k3 k4
  obtain ⟨i1, i2⟩ := H.hv.keepOther T.sm (dsym T.d3) k3 k4
  exact ⟨M', O', some b, rfl, ⟨H.n1, H.n2, k1, H.ls, H.lw, H.ll⟩, j1, by rw [List.length_append, progsV_snoc _ _ _ _ hlen]; exact k2, i1, .inl j2, T.d2, .inl i2.symm⟩
def nxW (r : Rw) (p : Nat × Int) (ws : List Int) : List Int := match r.l[p.1]? with
  | some x => refW x p.2 ws
  | none => ws
theorem refW_len (x : Tch) (last : Int) (ws : List Int) : (refW x last ws).length = ws.length := by
  unfold refW; split
  · rfl
  · split <;> exact upW_length _ _ _
theorem nxW_len (r : Rw) (p : Nat × Int) (ws : List Int) : (nxW r p ws).length = ws.length := by
  unfold nxW; split
  · exact refW_len _ _ _
  · rfl
theorem nxS_ws (j : Nat) (r : Rw) (p : Nat × Int) (s : Sh) : (nxS j r p s).ws = nxW r p s.ws := by
  unfold nxS nxW; cases r.l[p.1]? <;> rfl
theorem nxS_ls (j : Nat) (r : Rw) (p : Nat × Int) (s : Sh) (h : s.ls[j]? = some p.2) : (nxS j r p s).ls[j]? = some (nxP r p s.ws).2 := by
  unfold nxS nxP; split
  · exact (stepT_ls j p.2 _ s h).1
  · exact h
def thB (r : Rw) (p : Nat × Int) (n : Nat) : Bool := match r.l[p.1]? with
  | some x => decide (0 ≤ x.a) && decide (x.a < ((n : Nat) : Int))
  | none => false
theorem nxS_tc (j : Nat) (r : Rw) (p : Nat × Int) (s : Sh) : (nxS j r p s).tc = if thB r p s.ws.length = true then IntKind.u64.wrap (s.tc + 1) else s.tc := by
  unfold nxS thB
  cases r.l[p.1]? with
  | none => rfl
  | some x =>
    show tcW s.ws x.a s.tc = if (decide (0 ≤ x.a) && decide (x.a < ((s.ws.length : Nat) : Int))) = true then IntKind.u64.wrap (s.tc + 1) else s.tc
    by_cases h : inW s.ws x.a
    · unfold tcW
      rw [if_pos h, if_pos (by simp only [Bool.and_eq_true, decide_eq_true_eq]; exact h)]
    · unfold tcW
      rw [if_neg h, if_neg (by simp only [Bool.and_eq_true, decide_eq_true_eq]; exact h)]
theorem wrap_ne (t : Int) : t ≠ IntKind.u64.wrap (t + 1) := by
  simp only [IntKind.wrap, IntKind.signed, IntKind.bits]
  simp; omega
/-- The document's step. -/
theorem play_ref {st : Stp} {r : Rw} {p : Nat × Int} (H : Pl W ba bw bl nw nl h3 h2 rs gs ps s tab M O) {rs' : List Rw} {gs' : List Ag} (T : Own3 O gs' rs' pw mw av ab wv wb mv mb) (hrow : RowT (roW W) r.po r.l) (hbig : r.l.length ≤ 20) (hw0 : 0 < mw.length) (hw1 : mw.length < 1000) :
    CallM Try.prog 22 #[.agg #[.slice r.po r.l.length r.c, .int .i64 ((p.1 : Nat) : Int), .int .u64 p.2], mv] ⟨M, st⟩ (fun e m' => ∃ mv' mb' M' O', e = .returned (.tuple #[.agg #[.slice r.po r.l.length r.c, .int .i64 (((nxP r p mw).1 : Nat) : Int), .int .u64 (nxP r p mw).2], mv', .bool (decide (p.1 < r.l.length))]) ∧ m' = ⟨M', st⟩ ∧
      Pl W ba bw bl nw nl h3 h2 rs gs ps s tab M' O' ∧ Own3 O' gs' rs' pw mw av ab wv wb mv mb ∧ Own3 O' gs' rs' pw (nxW r p mw) av ab wv wb mv' mb') := by
  by_cases h0 : p.1 < r.l.length
  · obtain ⟨x, hx⟩ : ∃ x, r.l[p.1]? = some x := ⟨_, List.getElem?_eq_getElem h0⟩
    have hnx : nxP r p mw = (p.1 + 1, refL x p.2 mw) := by unfold nxP; rw [hx]
    have hnw : nxW r p mw = refW x p.2 mw := by unfold nxW; rw [hx]
    obtain ⟨bm, cm, restm, e1, e2, e3, e4, e5⟩ := SlB.at T.sm hw0
    rcases T.sm with ⟨_, _, q, _⟩ | ⟨bm, cm, restm, q1, q2, q3, q4, q5, q6⟩
    · omega
    subst q2
    rw [hnx, hnw, decide_eq_true h0]
    refine (c_refGo r.po r.c p.1 r.l x p.2 mw bm cm restm ⟨M, st⟩ hx (by omega) (hrow.up H.hv.mn.ro) (H.hv.m q3) q5 q6 hw0 hw1).mono fun e m' ⟨b9, c9, rest9, k1, ⟨k2, k3⟩, k4, k5⟩ => ?_
    have hO := H.hv.fresh (show M b9 = none from k1)
    subst k5
    refine ⟨.slice (some ⟨b9, 0, none⟩) mw.length c9, some b9, _, _, ?_, rfl, H.new k1, T.new hO, ?_⟩
    · exact k4
    · have := T.mem (mw' := refW x p.2 mw) hO k2 (by rw [refW_len]; exact k3)
      rw [refW_len] at this
      exact this
  · have hx : r.l[p.1]? = none := List.getElem?_eq_none (by omega)
    have hnx : nxP r p mw = p := by unfold nxP; rw [hx]
    have hnw : nxW r p mw = mw := by unfold nxW; rw [hx]
    rw [hnx, hnw, decide_eq_false h0]
    exact (c_refEnd r.po r.c p.1 r.l p.2 mv ⟨M, st⟩ (by omega)).mono fun e m' ⟨k1, k2⟩ => ⟨mv, mb, M, O, k1, k2, H, T, T⟩
end
end Go.Proofs.Ytpgooljdodijlaa
