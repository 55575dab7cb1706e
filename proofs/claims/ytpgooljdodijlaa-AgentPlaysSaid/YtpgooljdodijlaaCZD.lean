/-
  What is proved: an agent that is known wakes; no agent, no memory, no program. Conditions: those that each theorem names.
-/
import Derived.Test.YtpgooljdodijlaaCZC
namespace Go.Proofs.Ytpgooljdodijlaa
open Go Go.Sp Go.Conc Go.RowKit
attribute [local irreducible] Code.wps OpsS OpsL Oper.wps Sem.wpm CallM RunM
set_option linter.unusedSimpArgs false
set_option linter.unusedVariables false
theorem bd10 : bodied Try.prog 10 = true := by kernel_rfl
theorem bd11 : bodied Try.prog 11 = true := by kernel_rfl
theorem bd13 : bodied Try.prog 13 = true := by kernel_rfl
theorem bd15 : bodied Try.prog 15 = true := by kernel_rfl
theorem bd21 : bodied Try.prog 21 = true := by kernel_rfl
theorem if23 : plainOf Try.prog 23 = true := by kernel_rfl
theorem pl57 : plOf Try.prog 57 = some [(0, 1), (1, 1), (2, 1)] := by kernel_rfl
theorem plS_inj {ba bw bl : Nat} {s t : Sh} (h3 : Three ba bw bl) (h : plS ba bw bl s = plS ba bw bl t) : s = t := by
  have hA : HasAr ba bw (plS ba bw bl t) s.ws s.tc s.la := ⟨h3.n1, by rw [← h]; exact plS_ba s, by rw [← h]; exact plS_bw h3 s⟩
  obtain ⟨e1, e2, e3⟩ := has_inj hA h3
  have e4 : some (Obj.cells (wordsV s.ls) 31) = some (Obj.cells (wordsV t.ls) 31) := by rw [← plS_bl h3 s, ← plS_bl h3 t, h]
  have e5 := wordsV_inj (Obj.cells.inj (Option.some.inj e4)).1
  cases s; cases t
  simp only at e1 e2 e3 e5
  subst e1; subst e2; subst e3; subst e5; rfl
/-- What is so above a part stays so. -/
theorem up_new {m0 m : Mem} {x : Nat} {X : Obj} (h : ∀ b o, m0 b = some o → m b = some o) (hx : m x = none) : ∀ b o, m0 b = some o → (m.set x X) b = some o := fun b o e => Mem.miss (Mem.ne_none (h b o e) hx) (h b o e)
theorem up_set {m0 m : Mem} {x : Nat} {X : Obj} (h : ∀ b o, m0 b = some o → m b = some o) (hx : m0 x = none) : ∀ b o, m0 b = some o → (m.set x X) b = some o := fun b o e => Mem.miss (Mem.ne_none e hx) (h b o e)
abbrev t12a : Tch := ⟨0, 1, 0⟩
abbrev t12b : Tch := ⟨1, 0, 1⟩
set_option maxRecDepth 20000 in
set_option maxHeartbeats 4000000 in
theorem c_wakes {L : Lw} {N : Nat} {W : World} {Post : Value → World → Prop} {M : Part} (hRM : ∀ b o, L.ro b = some o → M b = some o) :
    CallM Try.prog 15 #[] ⟨M, Well L Try.prog kd N W Post fun _ => none⟩ (fun e m' => m'.stop = Well L Try.prog kd N W Post (fun _ => none) ∧ e = .returned (.bool true)) := by
  refine callM_back (Q := fun e _ => e = .returned (.bool true)) ?_
  refine callM_body (args := []) Try.func15 rfl rfl rfl ?_
  repeat (refine e_seq ?_)
  refine e_reg rfl ?_
  refine l_y (v := .bool false) y_assign ?_
  refine l_end ?_
  refine e_then ?_
  repeat (refine e_seq ?_)
  refine e_reg rfl ?_
  refine l_c (e_call bd10 rfl (l := [.int .i64 ((2 : Nat) : Int)]) rfl) (c_aNew 2 (by decide) (by decide) _) ?_
  rintro e m' ⟨bw, ba, hbw, hba, rfl, rfl⟩
  have f0_bw := Mem.hit ⟨M, Well L Try.prog kd N W Post fun _ => none⟩ bw (.cells (wordsV (List.replicate 2 0)) 31)
  have nab : ba ≠ bw := (Mem.ne_none f0_bw hba).symm
  have up0 : ∀ b o, (Mem.mk M (Well L Try.prog kd N W Post fun _ => none)) b = some o → (Mem.mk M (Well L Try.prog kd N W Post fun _ => none)) b = some o := fun _ _ h => h
  have f1_ba := Mem.hit ((Mem.mk M (Well L Try.prog kd N W Post fun _ => none)).set bw (.cells (wordsV (List.replicate 2 0)) 31)) ba (arB bw (List.replicate 2 0) 0 (-1))
  have f1_bw := Mem.miss (p := arB bw (List.replicate 2 0) 0 (-1)) nab.symm f0_bw
  have up1 := up_new (X := arB bw (List.replicate 2 0) 0 (-1)) (up_new (X := .cells (wordsV (List.replicate 2 0)) 31) up0 hbw) hba
  have nMba : (Mem.mk M (Well L Try.prog kd N W Post fun _ => none)) ba = none := (Mem.none_set hba).2
  generalize hm1 : (((Mem.mk M (Well L Try.prog kd N W Post fun _ => none)).set bw (.cells (wordsV (List.replicate 2 0)) 31)).set ba (arB bw (List.replicate 2 0) 0 (-1))) = m1 at *
  have st1 : m1.stop = Well L Try.prog kd N W Post (fun _ => none) := by rw [← hm1]; rfl
  refine l_y (v := .tuple #[.pointer (some ⟨ba, 0, none⟩), .int .i64 0]) y_move ?_
  refine l_y (v := .pointer (some ⟨ba, 0, none⟩)) (y_extract rfl rfl) ?_
  refine l_y (v := .int .i64 0) (y_extract rfl rfl) ?_
  refine l_y (v := .pointer (some ⟨ba, 0, none⟩)) y_assign ?_
  refine l_y (v := .int .i64 0) y_assign ?_
  refine l_end ?_
  refine e_then ?_
  repeat (refine e_seq ?_)
  refine e_reg rfl ?_
  refine l_y (v := .int .i64 0) y_move ?_
  refine l_y (v := .bool false) (y_int (p := 0) (q := 0) rfl rfl rfl) ?_
  refine l_y (v := .bool false) y_move ?_
  refine g_y (v := .pointer (some ⟨ba, 0, none⟩)) (b := false) rfl rfl rfl rfl y_move ?_
  refine g_y (v := .bool false) (b := false) rfl rfl rfl rfl (y_eql (r := false) rfl rfl rfl rfl) ?_
  refine l_y (v := .bool false) (y_pickF (t := false) rfl rfl rfl) ?_
  refine l_end ?_
  refine e_then ?_
  refine e_ifF (t := false) rfl rfl ?_
  refine e_skip ?_
  refine e_then ?_
  repeat (refine e_seq ?_)
  refine e_reg rfl ?_
  refine l_y (v := .pointer (some ⟨ba, 0, none⟩)) y_move ?_
  refine l_cr (e_call bd35 rfl (l := [.pointer (some ⟨ba, 0, none⟩), .int .i64 1, .int .u64 7]) rfl) (c_Write ba bw (List.replicate 2 0) 0 (-1) 1 7 m1 f1_ba f1_bw nab) ?_
  have f2_ba : ((m1.set ba (arB bw [0, 7] 1 1)).set bw (.cells (wordsV [0, 7]) 31)) ba = some (arB bw [0, 7] 1 1) := Mem.miss nab (Mem.hit _ _ _)
  have f2_bw := Mem.hit (m1.set ba (arB bw [0, 7] 1 1)) bw (.cells (wordsV [0, 7]) 31)
  have up2 := up_set (X := .cells (wordsV [0, 7]) 31) (up_set (X := arB bw [0, 7] 1 1) up1 nMba) hbw
  have hm2 : ((m1.set ba (.cells #[.slice (some ⟨bw, 0, none⟩) (List.replicate 2 (0 : Int)).length (List.replicate 2 (0 : Int)).length, .int .u64 (tcW (List.replicate 2 0) 1 0), .int .i64 (laW (List.replicate 2 0) 1 (-1))] 106)).set bw (.cells (wordsV (upW (List.replicate 2 0) 1 (fun _ => 7))) 31)) = (m1.set ba (arB bw [0, 7] 1 1)).set bw (.cells (wordsV [0, 7]) 31) := by
    rfl
  rw [hm2]
  have st2 : ((m1.set ba (arB bw [0, 7] 1 1)).set bw (.cells (wordsV [0, 7]) 31)).stop = Well L Try.prog kd N W Post (fun _ => none) := st1
  generalize ((m1.set ba (arB bw [0, 7] 1 1)).set bw (.cells (wordsV [0, 7]) 31)) = m2 at *
  refine l_end ?_
  refine e_then ?_
  repeat (refine e_seq ?_)
  refine e_reg rfl ?_
  refine l_n (n_alloc zr31) fun bl hbl => ?_
  refine l_d (d_storeB (v := .int .u64 0) (c' := wordsV [0]) rfl rfl sz31 (Mem.hit _ _ _) rfl rfl (Nat.le_refl 1) rfl) ?_
  rw [Mem.set_set]
  refine l_end ?_
  refine e_then ?_
  have n_abl : ba ≠ bl := Mem.ne_none f2_ba hbl
  have n_wbl : bw ≠ bl := Mem.ne_none f2_bw hbl
  have h3 : Three ba bw bl := ⟨nab, n_abl, n_wbl⟩
  have f3_bl := Mem.hit m2 bl (.cells (wordsV [0]) 31)
  have f3_ba := Mem.miss (p := .cells (wordsV [0]) 31) n_abl f2_ba
  have f3_bw := Mem.miss (p := .cells (wordsV [0]) 31) n_wbl f2_bw
  have up3 := up_new (X := .cells (wordsV [0]) 31) up2 hbl
  have st3 : (m2.set bl (.cells (wordsV [0]) 31)).stop = Well L Try.prog kd N W Post (fun _ => none) := st2
  have nMbl : (Mem.mk M (Well L Try.prog kd N W Post fun _ => none)) bl = none := by
    cases h : (Mem.mk M (Well L Try.prog kd N W Post fun _ => none)) bl with
    | none => rfl
    | some o => have := up2 bl o h; rw [hbl] at this; cases this
  generalize (m2.set bl (.cells (wordsV [0]) 31)) = m3 at *
  repeat (refine e_seq ?_)
  refine e_reg rfl ?_
  refine l_y (v := .pointer (some ⟨ba, 0, none⟩)) y_move ?_
  refine l_y (v := .iface 23 (.pointer (some ⟨ba, 0, none⟩))) (y_iface rfl if23) ?_
  refine l_y (v := .agg #[.int .u8 0, .int .i64 1, .int .u64 0]) (y_build (ps := [(1, .int .i64 1)]) (cs := #[.int .u8 0, .int .i64 1, .int .u64 0]) zr57 rfl pl57 rfl) ?_
  refine l_y (v := .agg #[.int .u8 1, .int .i64 0, .int .u64 1]) (y_build (ps := [(0, .int .u8 1), (2, .int .u64 1)]) (cs := #[.int .u8 1, .int .i64 0, .int .u64 1]) zr57 rfl pl57 rfl) ?_
  refine l_n (n_buildSlice (ps := [(0, .agg #[.int .u8 0, .int .i64 1, .int .u64 0]), (1, .agg #[.int .u8 1, .int .i64 0, .int .u64 1])]) (cs := #[.int .u8 0, .int .i64 1, .int .u64 0, .int .u8 1, .int .i64 0, .int .u64 1]) el49 sz57 zr57 (by decide) (by decide) rfl (by kernel_rfl)) fun br hbr => ?_
  have f4_br := Mem.hit m3 br (.cells #[.int .u8 0, .int .i64 1, .int .u64 0, .int .u8 1, .int .i64 0, .int .u64 1] 57)
  have f4_ba := Mem.miss (p := .cells #[.int .u8 0, .int .i64 1, .int .u64 0, .int .u8 1, .int .i64 0, .int .u64 1] 57) (Mem.ne_none f3_ba hbr) f3_ba
  have f4_bw := Mem.miss (p := .cells #[.int .u8 0, .int .i64 1, .int .u64 0, .int .u8 1, .int .i64 0, .int .u64 1] 57) (Mem.ne_none f3_bw hbr) f3_bw
  have f4_bl := Mem.miss (p := .cells #[.int .u8 0, .int .i64 1, .int .u64 0, .int .u8 1, .int .i64 0, .int .u64 1] 57) (Mem.ne_none f3_bl hbr) f3_bl
  have up4 := up_new (X := .cells #[.int .u8 0, .int .i64 1, .int .u64 0, .int .u8 1, .int .i64 0, .int .u64 1] 57) up3 hbr
  have st4 : (m3.set br (.cells #[.int .u8 0, .int .i64 1, .int .u64 0, .int .u8 1, .int .i64 0, .int .u64 1] 57)).stop = Well L Try.prog kd N W Post (fun _ => none) := st3
  generalize (m3.set br (.cells #[.int .u8 0, .int .i64 1, .int .u64 0, .int .u8 1, .int .i64 0, .int .u64 1] 57)) = m4 at *
  refine l_c (e_call bd21 rfl (l := [.slice (some ⟨br, 0, none⟩) 2 2, .pointer (some ⟨bl, 0, none⟩)]) rfl) (c_program _ _ _ rfl rfl) ?_
  rintro e m' ⟨t1, t2, ht1, ht2, rfl, rfl⟩
  have g5_t1 := Mem.hit m4 t1 (.cells #[.slice (some ⟨br, 0, none⟩) 2 2] 49)
  have up5 := up_new (X := .cells #[.pointer (some ⟨bl, 0, none⟩)] 50) (up_new (X := .cells #[.slice (some ⟨br, 0, none⟩) 2 2] 49) up4 ht1) ht2
  have up5' := up_new (X := .cells #[.pointer (some ⟨bl, 0, none⟩)] 50) (up_new (X := .cells #[.slice (some ⟨br, 0, none⟩) 2 2] 49) (fun b o (h : m4 b = some o) => h) ht1) ht2
  have f5_t2 := Mem.hit (m4.set t1 (.cells #[.slice (some ⟨br, 0, none⟩) 2 2] 49)) t2 (.cells #[.pointer (some ⟨bl, 0, none⟩)] 50)
  have f5_t1 := Mem.miss (p := .cells #[.pointer (some ⟨bl, 0, none⟩)] 50) (Mem.ne_none g5_t1 ht2) g5_t1
  have f5_ba := up5' _ _ f4_ba
  have f5_bw := up5' _ _ f4_bw
  have f5_bl := up5' _ _ f4_bl
  have f5_br := up5' _ _ f4_br
  have n12 : t1 ≠ t2 := Mem.ne_none g5_t1 ht2
  have ht2' := (Mem.none_set ht2).2
  have st5 : ((m4.set t1 (.cells #[.slice (some ⟨br, 0, none⟩) 2 2] 49)).set t2 (.cells #[.pointer (some ⟨bl, 0, none⟩)] 50)).stop = Well L Try.prog kd N W Post (fun _ => none) := st4
  have nt1 : t1 ≠ ba ∧ t1 ≠ bw ∧ t1 ≠ bl ∧ t1 ≠ br := ⟨(Mem.ne_none f4_ba ht1).symm, (Mem.ne_none f4_bw ht1).symm, (Mem.ne_none f4_bl ht1).symm, (Mem.ne_none f4_br ht1).symm⟩
  have nt2 : t2 ≠ ba ∧ t2 ≠ bw ∧ t2 ≠ bl ∧ t2 ≠ br := ⟨(Mem.ne_none f4_ba ht2').symm, (Mem.ne_none f4_bw ht2').symm, (Mem.ne_none f4_bl ht2').symm, (Mem.ne_none f4_br ht2').symm⟩
  have nbr : br ≠ ba ∧ br ≠ bw ∧ br ≠ bl := ⟨(Mem.ne_none f3_ba hbr).symm, (Mem.ne_none f3_bw hbr).symm, (Mem.ne_none f3_bl hbr).symm⟩
  generalize ((m4.set t1 (.cells #[.slice (some ⟨br, 0, none⟩) 2 2] 49)).set t2 (.cells #[.pointer (some ⟨bl, 0, none⟩)] 50)) = m5 at *
  obtain ⟨M5, st⟩ := m5
  obtain rfl : st = Well L Try.prog kd N W Post (fun _ => none) := st5
  have hro3 : ∀ b o, L.ro b = some o → b ≠ ba ∧ b ≠ bw ∧ b ≠ bl := fun b o h => by
    have := hRM b o h
    exact ⟨Mem.ne_none (m := ⟨M, Well L Try.prog kd N W Post fun _ => none⟩) this nMba, Mem.ne_none (m := ⟨M, Well L Try.prog kd N W Post fun _ => none⟩) this hbw, Mem.ne_none (m := ⟨M, Well L Try.prog kd N W Post fun _ => none⟩) this nMbl⟩
  -- THE AGENT IS BORN
  let s0 : Sh := ⟨[0, 7], 1, 1, [0]⟩
  let L' : Lw := playL ba bw bl 2 1 L.ro h3 L.ro_ro hro3
  let pc : Part := fun b => if b = t1 then some (.cells #[.slice (some ⟨br, 0, none⟩) 2 2] 49) else if b = t2 then some (.cells #[.pointer (some ⟨bl, 0, none⟩)] 50) else if b = br then some (.cells #[.int .u8 0, .int .i64 1, .int .u64 0, .int .u8 1, .int .i64 0, .int .u64 1] 57) else none
  have pc_some : ∀ {b o}, pc b = some o → (b = t1 ∧ o = .cells #[.slice (some ⟨br, 0, none⟩) 2 2] 49) ∨ (b = t2 ∧ o = .cells #[.pointer (some ⟨bl, 0, none⟩)] 50) ∨ (b = br ∧ o = .cells #[.int .u8 0, .int .i64 1, .int .u64 0, .int .u8 1, .int .i64 0, .int .u64 1] 57) := fun {b o} h => by
    simp only [pc] at h
    split at h
    · rename_i z; exact .inl ⟨z, (Option.some.inj h).symm⟩
    · split at h
      · rename_i z; exact .inr (.inl ⟨z, (Option.some.inj h).symm⟩)
      · split at h
        · rename_i z; exact .inr (.inr ⟨z, (Option.some.inj h).symm⟩)
        · cases h
  have pcM : ∀ b o, pc b = some o → M5 b = some o := fun b o h => by
    rcases pc_some h with ⟨rfl, rfl⟩ | ⟨rfl, rfl⟩ | ⟨rfl, rfl⟩
    · exact f5_t1
    · exact f5_t2
    · exact f5_br
  have SM : ∀ b o, plS ba bw bl s0 b = some o → M5 b = some o := fun b o h => by
    rcases plS_some h with ⟨rfl, rfl⟩ | ⟨rfl, rfl⟩ | ⟨rfl, rfl⟩
    · exact f5_ba
    · exact f5_bw
    · exact f5_bl
  have pcS : ∀ b o, pc b = some o → plS ba bw bl s0 b = none := fun b o h => by
    rcases pc_some h with ⟨rfl, rfl⟩ | ⟨rfl, rfl⟩ | ⟨rfl, rfl⟩
    · exact plS_none.2 ⟨nt1.1, nt1.2.1, nt1.2.2.1⟩
    · exact plS_none.2 ⟨nt2.1, nt2.2.1, nt2.2.2.1⟩
    · exact plS_none.2 nbr
  have pcO : ∀ b o, pc b = some o → floor o = 0 ∧ o.isChan = false ∧ ¬ RO o := fun b o h => by
    rcases pc_some h with ⟨rfl, rfl⟩ | ⟨rfl, rfl⟩ | ⟨rfl, rfl⟩ <;> exact ⟨rfl, rfl, ro_open _ _⟩
  refine l_c (e_call bd11 rfl (l := [.iface 23 (.pointer (some ⟨ba, 0, none⟩)), .func (.func 52) #[] #[.pointer (some ⟨t1, 0, none⟩), .pointer (some ⟨t2, 0, none⟩)]]) rfl)
    (callM_swap (L := L) (L' := L') (fun b o h => h) (c_New1 (L := L') (M := M5) (N := N) (W := W) (Post := Post) (S := plS ba bw bl s0) (pc := pc) (M0 := fun _ => none) (fs := []) (cs' := [.pointer (some ⟨t1, 0, none⟩), .pointer (some ⟨t2, 0, none⟩)]) (Ob := fun flag st S' => flag = false ∧ st = (0, [t12a, t12b], 0) ∧ S' = plS ba bw bl s0) bd52 ⟨s0, rfl, rfl, rfl⟩ (fun b o h => ?_) (fun b o h => up5 b o (hRM b o h)) (fun _ _ h => (by cases h)) (fun _ _ h => (by cases h)) (fun b o h => ⟨pcS b o h, pcO b o h⟩) (fun ag hmi hSa hpa hra M' e1 e2 e3 e4 => ?_))) ?_
  · rw [Part.join_r rfl] at h
    rcases Part.join_cases h with h | ⟨_, h⟩
    · exact pcM b o h
    · exact SM b o h
  · exact c_prog (h3 := h3) (i := 0) (l := [t12a, t12b]) (po := some ⟨br, 0, none⟩) (s00 := s0) hmi (by decide) rfl (by decide)
      ⟨fun b o i1 i2 _ _ _ => ⟨i1, i2⟩, e2, e3, e4, hSa⟩ rfl ⟨rfl, rfl⟩ ⟨rfl, rfl, rfl⟩ ⟨e1 _ _ (if_pos rfl), plS_none.2 ⟨nt1.1, nt1.2.1, nt1.2.2.1⟩⟩
      ⟨e1 _ _ (by simp only [pc]; rw [if_neg n12.symm, if_pos trivial]), plS_none.2 ⟨nt2.1, nt2.2.1, nt2.2.2.1⟩⟩
      (fun M hM => .inr ⟨br, 0, #[.int .u8 0, .int .i64 1, .int .u64 0, .int .u8 1, .int .i64 0, .int .u64 1], 57, (0, 0), rfl, hM br _ _ 0 (e1 _ _ (by simp only [pc]; rw [if_neg nt1.2.2.2.symm, if_neg nt2.2.2.2.symm, if_pos trivial])) (.inl ⟨plS_none.2 nbr, rfl⟩), fun j x hj => by
        rcases j with _ | _ | j
        · simp at hj; subst hj; exact ⟨rfl, rfl, rfl⟩
        · simp at hj; subst hj; exact ⟨rfl, rfl, rfl⟩
        · simp at hj⟩)
  rintro e m' ⟨ag, flag, st', S', M6, hmi, hfa, ⟨rfl, rfl, rfl⟩, hi', hF, rfl, rfl⟩
  refine l_y (v := .tuple #[.pointer (some ⟨ag.a, 0, none⟩), .int .i64 0]) y_move ?_
  refine l_y (v := .pointer (some ⟨ag.a, 0, none⟩)) (y_extract rfl rfl) ?_
  refine l_y (v := .int .i64 0) (y_extract rfl rfl) ?_
  refine l_y (v := .pointer (some ⟨ag.a, 0, none⟩)) y_assign ?_
  refine l_y (v := .int .i64 0) y_assign ?_
  refine l_end ?_
  refine e_then ?_
  repeat (refine e_seq ?_)
  refine e_reg rfl ?_
  refine l_y (v := .int .i64 0) y_move ?_
  refine l_y (v := .bool false) (y_int (p := 0) (q := 0) rfl rfl rfl) ?_
  refine l_y (v := .bool false) y_move ?_
  refine g_y (v := .pointer (some ⟨ag.a, 0, none⟩)) (b := false) rfl rfl rfl rfl y_move ?_
  refine g_y (v := .bool false) (b := false) rfl rfl rfl rfl (y_eql (r := false) rfl rfl rfl rfl) ?_
  refine l_y (v := .bool false) (y_pickF (t := false) rfl rfl rfl) ?_
  refine l_end ?_
  refine e_then ?_
  refine e_ifF (t := false) rfl rfl ?_
  refine e_skip ?_
  refine e_then ?_
  -- THE STEPS
  repeat (refine e_seq ?_)
  refine e_reg rfl ?_
  refine l_y (v := .pointer (some ⟨ag.a, 0, none⟩)) y_move ?_
  refine l_cr (v := .bool false) (e_call bd14 rfl (l := [.pointer (some ⟨ag.a, 0, none⟩)]) rfl) (c_Done ag.a 4 _ _ _ _ false _ hF.a) ?_
  refine l_y (v := .pointer (some ⟨ag.a, 0, none⟩)) y_move ?_
  refine l_c (e_call bd13 rfl (l := [.pointer (some ⟨ag.a, 0, none⟩)]) rfl) (c_Step1 (L := L') (ag := ag) (st := (0, [t12a, t12b], 0)) (if_pos rfl) ⟨s0, rfl, rfl, rfl⟩ hF.sh hF.ro hF.a hF.sa) ?_
  rintro e m' ⟨rfl, flag, st', S', M7, ⟨s, rfl, rfl, hs, rfl⟩, hi2, hK7, rfl⟩
  obtain rfl := plS_inj h3 hs
  refine l_y (v := .pointer (some ⟨ag.a, 0, none⟩)) y_move ?_
  refine l_c (e_call bd13 rfl (l := [.pointer (some ⟨ag.a, 0, none⟩)]) rfl) (c_Step1 (L := L') (ag := ag) (st := (0, [t12b], 7)) (if_pos rfl) hi2 hK7.sh hK7.ro hK7.a hK7.sa) ?_
  rintro e m' ⟨rfl, flag, st', S', M8, ⟨s, rfl, rfl, hs, rfl⟩, hi3, hK8, rfl⟩
  obtain rfl := plS_inj h3 hs
  have hst8 : tabPut (tabPut (tabPut (fun _ => none) ag.a (if false = true then none else some (ag, ((0, [t12a, t12b], 0) : L'.St)))) ag.a (if false = true then none else some (ag, ((0, [t12b], 7) : L'.St)))) ag.a none = fun _ => none := by
    funext b; unfold tabPut; split <;> rfl
  refine l_y (v := .pointer (some ⟨ag.a, 0, none⟩)) y_move ?_
  refine l_cr (v := .bool true) (e_call bd14 rfl (l := [.pointer (some ⟨ag.a, 0, none⟩)]) rfl) (c_Done ag.a 4 _ _ _ _ true _ hK8.a) ?_
  refine l_y (v := .bool false) y_assign ?_
  refine l_y (v := .int .i64 0) y_assign ?_
  refine l_y (v := .int .i64 0) y_assign ?_
  refine l_y (v := .bool true) y_assign ?_
  refine l_end ?_
  refine e_then ?_
  repeat (refine e_seq ?_)
  refine e_reg rfl ?_
  refine l_y (v := .bool false) y_move ?_
  refine l_y (v := .bool !false) (y_not rfl) ?_
  refine l_y (v := .bool true) y_move ?_
  refine g_y (v := .int .i64 0) (b := true) rfl rfl rfl rfl y_move ?_
  refine g_y (v := .bool true) (b := true) rfl rfl rfl rfl (y_int (p := 0) (q := 0) rfl rfl rfl) ?_
  refine l_y (v := .bool true) (y_pickT (t := true) rfl rfl rfl) ?_
  refine l_y (v := .bool true) y_move ?_
  refine g_y (v := .int .i64 0) (b := true) rfl rfl rfl rfl y_move ?_
  refine g_y (v := .bool true) (b := true) rfl rfl rfl rfl (y_int (p := 0) (q := 0) rfl rfl rfl) ?_
  refine l_y (v := .bool true) (y_pickT (t := true) rfl rfl rfl) ?_
  refine l_y (v := .bool true) y_move ?_
  refine g_y (v := .bool true) (b := true) rfl rfl rfl rfl y_move ?_
  refine l_y (v := .bool true) (y_pickT (t := true) rfl rfl rfl) ?_
  refine l_y (v := .bool true) y_move ?_
  refine g_y (v := .pointer (some ⟨ag.a, 0, none⟩)) (b := true) rfl rfl rfl rfl y_move ?_
  refine g_cr (v := .int .i64 6) (b := true) rfl rfl rfl rfl (e_call bd13 rfl (l := [.pointer (some ⟨ag.a, 0, none⟩)]) rfl) (c_Step_done ag.a 4 _ _ _ _ _ hK8.a) ?_
  refine g_y (v := .bool true) (b := true) rfl rfl rfl rfl (y_int (p := 6) (q := 6) rfl rfl rfl) ?_
  refine l_y (v := .bool true) (y_pickT (t := true) rfl rfl rfl) ?_
  refine l_y (v := .bool true) y_move ?_
  refine g_y (v := .pointer (some ⟨ba, 0, none⟩)) (b := true) rfl rfl rfl rfl y_move ?_
  refine g_cr (v := .int .u64 8) (b := true) rfl rfl rfl rfl (e_call bd19 rfl (l := [.pointer (some ⟨ba, 0, none⟩), .int .i64 0]) rfl) (c_Read ba bw [8, 7] 3 0 0 _ (hK8.sh _ _ (plS_ba _)) (hK8.sh _ _ (plS_bw h3 _)) nab) ?_
  refine g_y (v := .bool true) (b := true) rfl rfl rfl rfl (y_int (p := 8) (q := 8) rfl rfl rfl) ?_
  refine l_y (v := .bool true) (y_pickT (t := true) rfl rfl rfl) ?_
  refine l_y (v := .bool true) y_assign ?_
  refine l_end ?_
  refine e_then ?_
  refine e_ret ?_
  exact body_ret (l := [.bool true]) (resVals_cons (resVal_tmp rfl) resVals_nil) (Mem.le_refl _) ⟨L', fun _ _ h => h, congrArg (Well L' Try.prog kd N W Post) hst8, rfl⟩
end Go.Proofs.Ytpgooljdodijlaa
