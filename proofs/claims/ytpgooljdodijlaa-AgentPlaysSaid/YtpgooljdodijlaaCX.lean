/-
  What is proved: the contracts of the agents' package for the agents themselves. Conditions: those that each theorem names.
-/
import Derived.Test.YtpgooljdodijlaaCW
namespace Go.Proofs.Ytpgooljdodijlaa
open Go Go.Sp Go.Conc Go.RowKit
attribute [local irreducible] Code.wps OpsS OpsL Oper.wps Sem.wpm CallM RunM
set_option linter.unusedSimpArgs false
set_option linter.unusedVariables false
/-- What an agent carries through a wait. -/
noncomputable def keepA (ag : Ag) (M S : Part) : Part := fun b => open Classical in
  if b = ag.a then some (ag.ro kd) else if S b = none then (match M b with | some o => if floor o = 0 ∧ o.isChan = false ∧ ¬ RO o then some o else none | none => none) else none
theorem keepA_a (ag : Ag) (M S : Part) : keepA ag M S ag.a = some (ag.ro kd) := by unfold keepA; exact if_pos rfl
theorem keepA_some {ag : Ag} {M S : Part} {b : Nat} {o : Obj} (h : keepA ag M S b = some o) (hb : b ≠ ag.a) : S b = none ∧ M b = some o ∧ floor o = 0 ∧ o.isChan = false ∧ ¬ RO o := by
  unfold keepA at h
  rw [if_neg hb] at h
  split at h
  · rename_i hs
    split at h
    · rename_i x hx
      split at h
      · rename_i hc; obtain rfl := Option.some.inj h; exact ⟨hs, hx, hc.1, hc.2.1, hc.2.2⟩
      · cases h
    · cases h
  · cases h
theorem keepA_of {ag : Ag} {M S : Part} {b : Nat} {o : Obj} (hb : b ≠ ag.a) (hs : S b = none) (hm : M b = some o) (hf : floor o = 0) (hc : o.isChan = false) (hr : ¬ RO o) : keepA ag M S b = some o := by
  unfold keepA; rw [if_neg hb, if_pos hs, hm]; exact if_pos ⟨hf, hc, hr⟩
theorem ag22 : aggOf Try.prog 22 = some false := by kernel_rfl
theorem sz22 : szOf Try.prog 22 = some 1 := by kernel_rfl
theorem zr130 : zeroOf Try.prog 130 = some (.agg #[]) := by kernel_rfl
theorem pl130 : plOf Try.prog 130 = some [] := by kernel_rfl
theorem if130 : plainOf Try.prog 130 = true := by kernel_rfl
theorem keepA_join {ag : Ag} {M S : Part} (hSM : ∀ b o, S b = some o → M b = some o) (h_a : M ag.a = some (ag.ro kd)) {b : Nat} {o : Obj} (h : (keepA ag M S).join S b = some o) : M b = some o := by
  rcases Part.join_cases h with h | ⟨_, h⟩
  · by_cases hb : b = ag.a
    · subst hb; rw [keepA_a] at h; exact h_a.trans h
    · exact (keepA_some h hb).2.1
  · exact hSM b o h
/-- What stands where an agent waits. -/
theorem zf_of {L : Lw} {P : Program} {ag : Ag} {M S : Part} {st : Stp} (hS : L.inv S) (hSM : ∀ b o, S b = some o → M b = some o) (h_a : M ag.a = some (ag.ro kd)) (hSa : S ag.a = none) {X : Nat → Option Nat} {s : Nat} {w : World} (hm : (Mem.mk M st).on w.heap) (ho : Own X s ⟨M, st⟩) :
    (∀ b o, keepA ag M S b = some o → S b = none) ∧ (Mem.mk ((keepA ag M S).join S) fun _ _ _ _ _ => True).on w.heap ∧ ag.priv kd (keepA ag M S) ∧ (∀ b o, keepA ag M S b = some o → b ≠ ag.a → Wr X s b 0) ∧ (∀ b o, S b = some o → Wr X s b 0) := by
  refine ⟨fun b o h => ?_, fun b o h => hm b o (keepA_join hSM h_a h), ⟨keepA_a _ _ _, fun b o h hb => ?_⟩, fun b o h hb => ?_, fun b o h => ?_⟩
  · by_cases hb : b = ag.a
    · subst hb; exact hSa
    · exact (keepA_some h hb).1
  · exact ⟨(keepA_some h hb).2.2.1, (keepA_some h hb).2.2.2.1⟩
  · obtain ⟨_, h2, h3, _, h5⟩ := keepA_some h hb
    have := (ho b o h2).resolve_left h5
    rw [h3] at this; exact this
  · obtain ⟨c, e, rfl⟩ := L.inv_bare S hS b o h
    exact (ho b _ (hSM b _ h)).resolve_left (ro_open c e)
/-- An agent makes ready to wait: it makes the block that it waits over. -/
theorem r_wait {L : Lw} {P : Program} {ag : Ag} {Ob : Bool → L.St → Part → Prop} {st : L.St} {M S : Part} {bf : Frame} {k : List Item} {cs : List Frame} {ops : Array Oper} {i : Nat} {rest : List Nat} {n : Nat} {base : Nat → Value} {rs : List (Nat × Value)} {ds : List Deferred} {dst : Option Tmp} {ty : TypeId} {pos : String} {after : Array Edge} {x : Operand} {v : Value}
    (hob : Ob false st S) (hS : L.inv S) (hSM : ∀ b o, S b = some o → M b = some o) (h_a : M ag.a = some (ag.ro kd)) (hSa : S ag.a = none)
    (ho : ops[i]? = some ⟨dst, .box 133 x, ty, pos, after, none⟩) (hk : bf.kind ≠ .early) (hd : dstOk n ⟨dst, .box 133 x, ty, pos, after, none⟩ = true) (hx : ev base rs x = v) (hv : v.cells = #[.pointer (some ⟨ag.a, 0, none⟩)])
    (h : ∀ z, z ≠ ag.a → AtF P false bf (.inRegion ops rest :: k) cs n base (outE dst (.pointer (some ⟨z, 0, none⟩)) rs) ds ⟨ag.eyes kd z, fun _ _ _ g w => AtSend P false ag.cr (.bool false) (fun g' => QGo P false (ag.eyes kd z) (seatA ag (Home L P (Zl L P kd ag) st (keepA ag M S))) g') g w⟩) :
    AtF P false bf (.inRegion ops (i :: rest) :: k) cs n base rs ds ⟨M, Zl L P kd ag Ob⟩ := by
  intro a ha
  unfold RunM
  intro X s w hm ho' hs
  refine .stop fun d => Zl.fold fun _ => ?_
  obtain ⟨z1, z2, z3, z4, z5⟩ := zf_of (P := P) hS hSM h_a hSa (w := w.at d) hm ho'
  exact ⟨S, keepA ag M S, hS, z1, z2, z3, z4, z5, hs, .inr (.inl ⟨st, hob, bf.at a (.inRegion ops (i :: rest) :: k), cs, fun z => bf.at (a.put dst (.pointer (some ⟨z, 0, none⟩))) (.inRegion ops rest :: k), rfl, fun w => by
    have := box_at (P := P) (main := false) (k := k) (cs := cs) (rest := rest) ho hk ha hx w
    rw [hv] at this; exact this, fun z hz => h z hz _ (ha.put hd _)⟩)⟩
section
variable {L : Lw}
set_option maxRecDepth 20000 in
theorem c_wait {ag : Ag} {Ob : Bool → L.St → Part → Prop} {st : L.St} {M S : Part} (hob : Ob false st S) (hS : L.inv S) (hSM : ∀ b o, S b = some o → M b = some o) (h_a : M ag.a = some (ag.ro kd)) (hSa : S ag.a = none) :
    CallM Try.prog 111 #[.agg #[.pointer (some ⟨ag.a, 0, none⟩)]] ⟨M, Zl L Try.prog kd ag Ob⟩ (fun e m' => ∃ S₁, L.inv S₁ ∧ (∀ b o, keepA ag M S b = some o → S₁ b = none) ∧
      ((e = .returned (.tuple #[]) ∧ m' = ⟨((keepA ag M S).join S₁).join L.ro, Zl L Try.prog kd ag (L.tr st S₁)⟩) ∨
       (e = .panicked [{ v := .iface 130 (.agg #[]), recovered := false }] ∧ m' = ⟨((keepA ag M S).join S₁).join L.ro, Zl L Try.prog kd ag (fun flag _ S' => flag = true ∧ L.dd st S₁ S')⟩))) := by
  unfold CallM
  intro main c cs h1 h2
  cases main with
  | true => exact zl_other
  | false =>
  refine r_enter (args := [.agg #[.pointer (some ⟨ag.a, 0, none⟩)]]) Try.func111 rfl rfl rfl ?_
  repeat (refine r_seq ?_)
  refine r_reg ?_
  refine r_wait (i := 0) (v := .agg #[.pointer (some ⟨ag.a, 0, none⟩)]) (st := st) hob hS hSM h_a hSa rfl (by decide) rfl rfl rfl ?_
  intro b hb
  have h_b : ag.eyes kd b b = some (.cells #[.pointer (some ⟨ag.a, 0, none⟩)] 133 (0, 1)) := if_pos rfl
  have h_e : ag.eyes kd b ag.a = some (.cells #[ag.mi, .chan (some ag.ct), .chan (some ag.cr), .chan (some ag.cd)] 104 (0, 4)) := by unfold Ag.eyes; rw [if_neg (Ne.symm hb), if_pos rfl]; rfl
  refine r_end ?_
  repeat (refine r_seq ?_)
  refine r_reg ?_
  refine r_y (i := 0) (v := .pointer (some ⟨b, 0, none⟩)) rfl (by decide) rfl (y_fieldB rfl Try.underlying133 rfl sz22 rfl) ?_
  refine r_y (i := 1) (v := .pointer (some ⟨ag.a, 0, none⟩)) rfl (by decide) rfl (y_loadB rfl ag22 h_b rfl) ?_
  refine r_y (i := 2) (v := .pointer (some ⟨ag.a, 0, none⟩)) rfl (by decide) rfl (y_nilCheck rfl) ?_
  refine r_y (i := 3) (v := .pointer (some ⟨ag.a, 2, none⟩)) rfl (by decide) rfl (y_fieldB rfl Try.underlying104 rfl sz102 rfl) ?_
  refine r_y (i := 4) (v := .chan (some ag.cr)) rfl (by decide) rfl (y_loadB rfl ag102 h_e rfl) ?_
  intro a2 ha2
  unfold RunM
  intro X s w hm ho hs
  refine .stop fun d => ⟨rfl, _, fun d' => send_at (b := { (default : Frame) with fn := 111, kind := .normal }) (i := 5) (c := ag.cr) (v := .bool false) rfl (by decide) ha2 rfl rfl _, ?_⟩
  rw [served_at rfl]
  have hq2 := ha2.put (dst := none) rfl undef
  revert hq2
  generalize a2.put none undef = a3
  intro hq2
  refine (show AtQ _ _ _ _ _ _ _ _ _ _ _ from ?_) a3 hq2
  refine q_end ?_
  repeat (refine q_seq ?_)
  refine q_reg ?_
  refine q_y (i := 0) (v := .pointer (some ⟨b, 0, none⟩)) rfl (by decide) rfl (calm_field rfl Try.underlying133 rfl sz22) (y_fieldB rfl Try.underlying133 rfl sz22 rfl) ?_
  refine q_y (i := 1) (v := .pointer (some ⟨ag.a, 0, none⟩)) rfl (by decide) rfl (calm_load rfl ag22) (y_loadB (b := b) (o := 0) rfl ag22 h_b rfl) ?_
  refine q_y (i := 2) (v := .pointer (some ⟨ag.a, 0, none⟩)) rfl (by decide) rfl (calm_nilCheck rfl) (y_nilCheck rfl) ?_
  refine q_y (i := 3) (v := .pointer (some ⟨ag.a, 1, none⟩)) rfl (by decide) rfl (calm_field rfl Try.underlying104 rfl sz101) (y_fieldB rfl Try.underlying104 rfl sz101 rfl) ?_
  refine q_y (i := 4) (v := .chan (some ag.ct)) rfl (by decide) rfl (calm_load rfl ag101) (y_loadB (b := ag.a) (o := 1) rfl ag101 h_e rfl) ?_
  refine q_end ?_
  repeat (refine q_seq ?_)
  refine q_reg ?_
  refine q_y (i := 0) (v := .pointer (some ⟨b, 0, none⟩)) rfl (by decide) rfl (calm_field rfl Try.underlying133 rfl sz22) (y_fieldB rfl Try.underlying133 rfl sz22 rfl) ?_
  refine q_y (i := 1) (v := .pointer (some ⟨ag.a, 0, none⟩)) rfl (by decide) rfl (calm_load rfl ag22) (y_loadB (b := b) (o := 0) rfl ag22 h_b rfl) ?_
  refine q_y (i := 2) (v := .pointer (some ⟨ag.a, 0, none⟩)) rfl (by decide) rfl (calm_nilCheck rfl) (y_nilCheck rfl) ?_
  refine q_y (i := 3) (v := .pointer (some ⟨ag.a, 3, none⟩)) rfl (by decide) rfl (calm_field rfl Try.underlying104 rfl sz101) (y_fieldB rfl Try.underlying104 rfl sz101 rfl) ?_
  refine q_y (i := 4) (v := .chan (some ag.cd)) rfl (by decide) rfl (calm_load rfl ag101) (y_loadB (b := ag.a) (o := 3) rfl ag101 h_e rfl) ?_
  refine q_end ?_
  repeat (refine q_seq ?_)
  refine q_reg ?_
  refine q_at (i := 0) rfl (by decide) (run_select2 (c1 := ag.ct) (c2 := ag.cd) rfl rfl zr108 rfl rfl zr108) ?_
  intro a4 ha4 S₁ hS₁ hdis
  refine ⟨?_, ?_⟩
  · rw [served_at rfl]
    have hq5 := ha4.put (dst := some 17) rfl turned
    revert hq5
    generalize a4.put (some 17) turned = a5
    intro hq5
    refine (show AtF _ _ _ _ _ _ _ _ _ _ from ?_) a5 hq5
    refine r_y (i := 1) (v := .int .i64 0) rfl (by decide) rfl (y_extract rfl rfl) ?_
    refine r_y (i := 2) (v := .bool true) rfl (by decide) rfl (y_int rfl rfl rfl) ?_
    refine r_y (i := 3) (v := .bool false) rfl (by decide) rfl (y_int rfl rfl rfl) ?_
    refine r_end ?_
    refine r_code (by decide) ?_
    refine e_block ?_
    refine e_ifT (t := true) rfl rfl ?_
    refine e_skip ?_
    refine w_block rfl ?_
    exact r_fin (l := []) Try.func111 (.inl rfl) resVals_nil (Mem.le_refl _) (h1 _ _ ⟨S₁, hS₁, hdis, .inl ⟨rfl, rfl⟩⟩)
  · rw [served_at rfl]
    have hq5 := ha4.put (dst := some 17) rfl killed
    revert hq5
    generalize a4.put (some 17) killed = a5
    intro hq5
    refine (show AtF _ _ _ _ _ _ _ _ _ _ from ?_) a5 hq5
    refine r_y (i := 1) (v := .int .i64 1) rfl (by decide) rfl (y_extract rfl rfl) ?_
    refine r_y (i := 2) (v := .bool false) rfl (by decide) rfl (y_int rfl rfl rfl) ?_
    refine r_y (i := 3) (v := .bool true) rfl (by decide) rfl (y_int rfl rfl rfl) ?_
    refine r_end ?_
    refine r_code (by decide) ?_
    refine e_block ?_
    refine e_ifF (t := false) rfl rfl ?_
    refine e_ifT (t := true) rfl rfl ?_
    refine e_reg rfl ?_
    refine l_y (v := .agg #[]) (y_build (ps := []) (cs := #[]) zr130 rfl pl130 rfl) ?_
    refine l_y (v := .iface 130 (.agg #[])) (y_iface rfl if130) ?_
    refine l_panic (t := 130) (v := .agg #[]) rfl ?_
    refine w_block rfl ?_
    exact r_raise Try.func111 (Mem.le_refl _) (h2 _ _ ⟨S₁, hS₁, hdis, .inr ⟨rfl, rfl⟩⟩)
/-- What an agent's memory is behind a yield: what it keeps; what is shared now; what is only read. -/
structure Carry (L : Lw) (ag : Ag) (M S S₁ M₁ : Part) : Prop where
  keep : ∀ b o, M b = some o → S b = none → floor o = 0 → o.isChan = false → ¬ RO o → M₁ b = some o ∧ S₁ b = none
  shared : ∀ b o, S₁ b = some o → M₁ b = some o
  ro : ∀ b o, L.ro b = some o → M₁ b = some o
  a : M₁ ag.a = some (ag.ro kd) ∧ S₁ ag.a = none
theorem Carry.trans {ag : Ag} {M S S₁ M₁ S₂ M₂ : Part} (h : Carry L ag M S S₁ M₁) (h' : Carry L ag M₁ S₁ S₂ M₂) : Carry L ag M S S₂ M₂ :=
  ⟨fun b o h1 h2 h3 h4 h5 => h'.keep b o (h.keep b o h1 h2 h3 h4 h5).1 (h.keep b o h1 h2 h3 h4 h5).2 h3 h4 h5, h'.shared, h'.ro, h'.a⟩
theorem carry_keepA {ag : Ag} {M S S₁ : Part} (hS₁ : L.inv S₁) (h_a : M ag.a = some (ag.ro kd)) (hRM : ∀ b o, L.ro b = some o → M b = some o) (hSa : S ag.a = none)
    (hdis : ∀ b o, keepA ag M S b = some o → S₁ b = none) : Carry L ag M S S₁ (((keepA ag M S).join S₁).join L.ro) := by
  refine ⟨fun b o h1 h2 h3 h4 h5 => ?_, fun b o h => ?_, fun b o h => ?_, ?_, hdis _ _ (keepA_a ag M S)⟩
  · have hba : b ≠ ag.a := fun z => by subst z; rw [h_a] at h1; obtain rfl := Option.some.inj h1; have h3 : (4 : Nat) = 0 := h3; omega
    have := keepA_of (ag := ag) hba h2 h1 h3 h4 h5
    exact ⟨Part.join_l (Part.join_l this), hdis _ _ this⟩
  · cases hk : keepA ag M S b with
    | some x => rw [hdis _ _ hk] at h; cases h
    | none => exact Part.join_l (by rw [Part.join_r hk]; exact h)
  · cases hk : keepA ag M S b with
    | some x =>
      have hM := hRM b o h
      by_cases hba : b = ag.a
      · subst hba; rw [keepA_a] at hk; rw [hM] at h_a; obtain rfl := Option.some.inj hk; exact Part.join_l (Part.join_l (by rw [keepA_a, ← h_a]))
      · have := (keepA_some hk hba).2.1
        rw [hM] at this; obtain rfl := Option.some.inj this
        exact Part.join_l (Part.join_l hk)
    | none =>
      have h2 := L.ro_inv S₁ hS₁ b o h
      rw [Part.join_r (by rw [Part.join_r hk]; exact h2)]; exact h
  · exact Part.join_l (Part.join_l (keepA_a ag M S))
/-- A wait. -/
theorem c_wait' {ag : Ag} {Ob : Bool → L.St → Part → Prop} {st : L.St} {M S : Part} (hob : Ob false st S) (hS : L.inv S) (hSM : ∀ b o, S b = some o → M b = some o) (h_a : M ag.a = some (ag.ro kd)) (hSa : S ag.a = none) (hRM : ∀ b o, L.ro b = some o → M b = some o) :
    CallM Try.prog 111 #[.agg #[.pointer (some ⟨ag.a, 0, none⟩)]] ⟨M, Zl L Try.prog kd ag Ob⟩ (fun e m' => ∃ S₁ M₁, L.inv S₁ ∧ Carry L ag M S S₁ M₁ ∧
      ((e = .returned (.tuple #[]) ∧ m' = ⟨M₁, Zl L Try.prog kd ag (L.tr st S₁)⟩) ∨
       (e = .panicked [{ v := .iface 130 (.agg #[]), recovered := false }] ∧ m' = ⟨M₁, Zl L Try.prog kd ag (fun flag _ S' => flag = true ∧ L.dd st S₁ S')⟩))) :=
  (c_wait hob hS hSM h_a hSa).mono fun e m' ⟨S₁, h1, h2, h3⟩ => ⟨S₁, _, h1, carry_keepA h1 h_a hRM hSa h2, h3⟩
/-- It looks whether it is alive. -/
theorem r_look {P : Program} {ag : Ag} {Ob : Bool → L.St → Part → Prop} {st : L.St} {M S : Part} {bf : Frame} {k : List Item} {cs : List Frame} {ops : Array Oper} {i : Nat} {rest : List Nat} {n : Nat} {base : Nat → Value} {rs : List (Nat × Value)} {ds : List Deferred} {dst : Option Tmp} {ty : TypeId} {pos : String} {after : Array Edge} {s1 : SelectCase} {z : Value}
    (hob : Ob false st S) (hS : L.inv S) (hSM : ∀ b o, S b = some o → M b = some o) (h_a : M ag.a = some (ag.ro kd)) (hSa : S ag.a = none)
    (ho : ops[i]? = some ⟨dst, .select #[s1] false, ty, pos, after, none⟩) (hk : bf.kind ≠ .early) (hd : dstOk n ⟨dst, .select #[s1] false, ty, pos, after, none⟩ = true) (hx : ev base rs s1.chan = .chan (some ag.cd)) (hs1 : s1.send = none) (hz : zeroOf P s1.elem = some z)
    (h : AtF P false bf (.inRegion ops rest :: k) cs n base (outE dst (.tuple #[.int .i64 (-1), .bool false, z]) rs) ds ⟨((keepA ag M S).join S).join L.ro, Zl L P kd ag Ob⟩) :
    AtF P false bf (.inRegion ops (i :: rest) :: k) cs n base rs ds ⟨M, Zl L P kd ag Ob⟩ := by
  intro a ha
  unfold RunM
  intro X s w hm ho' hs
  refine .stop fun d => Zl.fold fun _ => ?_
  obtain ⟨z1, z2, z3, z4, z5⟩ := zf_of (P := P) hS hSM h_a hSa (w := w.at d) hm ho'
  refine ⟨S, keepA ag M S, hS, z1, z2, z3, z4, z5, hs, .inr (.inr ⟨st, z, hob, rfl, fun w => ?_, ?_⟩)⟩
  · have hsel : (execOp a.eval ⟨dst, .select #[s1] false, ty, pos, after, none⟩).runT P w #[] = (.ok (.comm #[rcase ag.cd z] false .select) w, #[]) := by rw [ha.eval]; exact run_select1 hx hs1 hz w
    rw [stepG_comm ho rfl hk (by rw [← Sem.runT_fst P _ w #[], hsel]), listed_none (by show ((execOp a.eval _).runT P w #[]).2 = _; rw [hsel])]
  · have h2 : (G (bf.at a (.inRegion ops (i :: rest) :: k)) cs).finishComm P #[rcase ag.cd z] .select (-1) undef false = Go.Conc.served (G (bf.at a (.inRegion ops (i :: rest) :: k)) cs) (.tuple #[.int .i64 (-1), .bool false, z]) := by
      show Go.Conc.served _ (commResult #[rcase ag.cd z] .select (-1) undef false) = _
      congr 1
      simp [commResult, rcase, List.zipIdx_cons, goInt]
    rw [h2, served_at ho]
    exact h _ (ha.put hd _)
set_option maxRecDepth 20000 in
theorem c_alive {ag : Ag} {Ob : Bool → L.St → Part → Prop} {st : L.St} {M S : Part} (hob : Ob false st S) (hS : L.inv S) (hSM : ∀ b o, S b = some o → M b = some o) (h_a : M ag.a = some (ag.ro kd)) (hSa : S ag.a = none) (hRM : ∀ b o, L.ro b = some o → M b = some o) :
    CallM Try.prog 110 #[.agg #[.pointer (some ⟨ag.a, 0, none⟩)]] ⟨M, Zl L Try.prog kd ag Ob⟩ (fun e m' => ∃ M₁, Carry L ag M S S M₁ ∧ e = .returned (.tuple #[]) ∧ m' = ⟨M₁, Zl L Try.prog kd ag Ob⟩) := by
  unfold CallM
  intro main c cs h1 h2
  cases main with
  | true => exact zl_other
  | false =>
  refine r_enter (args := [.agg #[.pointer (some ⟨ag.a, 0, none⟩)]]) Try.func110 rfl rfl rfl ?_
  repeat (refine r_seq ?_)
  refine r_code (by decide) ?_
  refine e_reg rfl ?_
  refine l_n (n_box (v := .agg #[.pointer (some ⟨ag.a, 0, none⟩)]) rfl) fun b hb => ?_
  refine l_end ?_
  refine r_way ?_
  have hba : ag.a ≠ b := Mem.ne_none (m := ⟨M, Zl L Try.prog kd ag Ob⟩) h_a hb
  have h_b := Mem.hit ⟨M, Zl L Try.prog kd ag Ob⟩ b (.cells #[.pointer (some ⟨ag.a, 0, none⟩)] 133)
  have h_a1 : ((⟨M, Zl L Try.prog kd ag Ob⟩ : Mem).set b (.cells #[.pointer (some ⟨ag.a, 0, none⟩)] 133)) ag.a = some (.cells #[ag.mi, .chan (some ag.ct), .chan (some ag.cr), .chan (some ag.cd)] 104 (0, 4)) := Mem.miss hba h_a
  repeat (refine r_seq ?_)
  refine r_code (by decide) ?_
  refine e_reg rfl ?_
  refine l_y (v := .pointer (some ⟨b, 0, none⟩)) (y_fieldB rfl Try.underlying133 rfl sz22 rfl) ?_
  refine l_y (v := .pointer (some ⟨ag.a, 0, none⟩)) (y_loadB rfl ag22 h_b rfl) ?_
  refine l_y (v := .pointer (some ⟨ag.a, 0, none⟩)) (y_nilCheck rfl) ?_
  refine l_y (v := .pointer (some ⟨ag.a, 3, none⟩)) (y_fieldB rfl Try.underlying104 rfl sz101 rfl) ?_
  refine l_y (v := .chan (some ag.cd)) (y_loadB rfl ag101 h_a1 rfl) ?_
  refine l_end ?_
  refine r_way ?_
  repeat (refine r_seq ?_)
  refine r_reg ?_
  have hle : ∀ x o, M x = some o → ((⟨M, Zl L Try.prog kd ag Ob⟩ : Mem).set b (.cells #[.pointer (some ⟨ag.a, 0, none⟩)] 133)) x = some o := fun x o hx => Mem.miss (Mem.ne_none (m := ⟨M, Zl L Try.prog kd ag Ob⟩) hx hb) hx
  refine r_look (i := 0) (z := .agg #[]) (M := ((⟨M, Zl L Try.prog kd ag Ob⟩ : Mem).set b (.cells #[.pointer (some ⟨ag.a, 0, none⟩)] 133)).at_) (S := S) hob hS (fun x o hx => hle x o (hSM x o hx)) (hle _ _ h_a) hSa rfl (by decide) rfl rfl rfl zr108 ?_
  refine r_y (i := 1) (v := .int .i64 (-1)) rfl (by decide) rfl (y_extract rfl rfl) ?_
  refine r_y (i := 2) (v := .bool false) rfl (by decide) rfl (y_int rfl rfl rfl) ?_
  refine r_end ?_
  refine r_code (by decide) ?_
  refine e_block ?_
  refine e_ifF (t := false) rfl rfl ?_
  refine e_skip ?_
  refine w_block rfl ?_
  refine r_way ?_
  have hc := carry_keepA (ag := ag) (M := ((⟨M, Zl L Try.prog kd ag Ob⟩ : Mem).set b (.cells #[.pointer (some ⟨ag.a, 0, none⟩)] 133)).at_) (S := S) (S₁ := S) hS (hle _ _ h_a) (fun x o hx => hle x o (hRM x o hx)) hSa (fun x o hx => by
    by_cases hxa : x = ag.a
    · subst hxa; exact hSa
    · exact (keepA_some hx hxa).1)
  exact r_fin (l := []) Try.func110 (.inl rfl) resVals_nil (Mem.le_refl _) (h1 _ _ ⟨_, ⟨fun x o i1 i2 i3 i4 i5 => hc.keep x o (hle x o i1) i2 i3 i4 i5, hc.shared, hc.ro, hc.a⟩, rfl, rfl⟩)
end
end Go.Proofs.Ytpgooljdodijlaa
