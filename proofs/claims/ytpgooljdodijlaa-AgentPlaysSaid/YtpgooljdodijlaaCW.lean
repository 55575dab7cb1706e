/-
  What is proved: the contracts of the agents' package for the one who steps them. Conditions: those that each theorem names.
-/
import Derived.Test.YtpgooljdodijlaaCV
import Derived.Test.YtpgooljdodijlaaProg
import Derived.KernelRfl
import Derived.Test.YtpgooljdodijlaaDone
namespace Go.Proofs.Ytpgooljdodijlaa
open Go Go.Sp Go.Conc Go.RowKit
attribute [local irreducible] Code.wps OpsS OpsL Oper.wps Sem.wpm CallM RunM
set_option linter.unusedSimpArgs false
set_option linter.unusedVariables false
/-- The types' numbers. -/
def kd : Kd := ⟨104, 133⟩
/-- An agent's block, as goroutine 0 has it. -/
def agB (ag : Ag) (d : Bool) : Obj := .cells #[ag.mi, .chan (some ag.ct), .chan (some ag.cr), .chan (some ag.cd), .bool d] 104 (0, 4)
theorem ag101 : aggOf Try.prog 101 = some false := by kernel_rfl
theorem sz101 : szOf Try.prog 101 = some 1 := by kernel_rfl
theorem ag102 : aggOf Try.prog 102 = some false := by kernel_rfl
theorem sz102 : szOf Try.prog 102 = some 1 := by kernel_rfl
theorem zr4 : zeroOf Try.prog 4 = some (.bool false) := by kernel_rfl
theorem zr108 : zeroOf Try.prog 108 = some (.agg #[]) := by kernel_rfl
theorem pl108 : plOf Try.prog 108 = some [] := by kernel_rfl
section
variable {L : Lw} {N : Nat} {W : World} {Post : Value → World → Prop} {tab : Nat → Option (Ag × L.St)}
set_option maxRecDepth 20000 in
theorem c_Step {ag : Ag} {st : L.St} (hT : tab ag.a = some (ag, st)) {M S : Part} (hS : L.inv S) (hSM : ∀ b o, S b = some o → M b = some o) (h_a : M ag.a = some (agB ag false)) (hSa : S ag.a = none) :
    CallM Try.prog 13 #[.pointer (some ⟨ag.a, 0, none⟩)] ⟨M, Well L Try.prog kd N W Post tab⟩ (fun e m' => e = .returned (.int .i64 0) ∧ ∃ flag st' S', L.tr st S flag st' S' ∧ L.inv S' ∧ (∀ b o, keepM M S b = some o → S' b = none) ∧
      m' = (Mem.mk (((keepM M S).join S').join L.ro) (Well L Try.prog kd N W Post (fun a => if a = ag.a then (if flag = true then none else some (ag, st')) else tab a))).set ag.a (agB ag flag)) := by
  unfold CallM
  intro main c cs h1 h2
  cases main with
  | false => exact well_other
  | true =>
  refine r_enter (args := [.pointer (some ⟨ag.a, 0, none⟩)]) Try.func13 rfl rfl rfl ?_
  refine r_seq ?_
  refine r_code (by decide) ?_
  refine e_reg rfl ?_
  refine l_y (v := .int .i64 0) y_assign ?_
  refine l_end ?_
  refine r_way ?_
  refine r_seq ?_
  refine r_code (by decide) ?_
  refine e_block ?_
  refine e_seq ?_
  refine e_reg rfl ?_
  refine l_y (v := .pointer (some ⟨ag.a, 0, none⟩)) y_move ?_
  refine l_y (v := .bool false) (y_eql (r := false) rfl rfl rfl rfl) ?_
  refine l_y (v := .bool false) y_assign ?_
  refine l_end ?_
  refine e_then ?_
  refine e_ifF (t := false) rfl rfl ?_
  refine e_seq ?_
  refine e_reg rfl ?_
  refine l_y (v := .pointer (some ⟨ag.a, 0, none⟩)) y_move ?_
  refine l_y (v := .pointer (some ⟨ag.a, 0, none⟩)) (y_nilCheck rfl) ?_
  refine l_y (v := .pointer (some ⟨ag.a, 4, none⟩)) (y_fieldB rfl Try.underlying104 rfl sz4 rfl) ?_
  refine l_y (v := .bool false) (y_loadB rfl ag4 h_a rfl) ?_
  refine l_y (v := .bool false) y_assign ?_
  refine l_end ?_
  refine e_then ?_
  refine e_ifF (t := false) rfl rfl ?_
  refine e_skip ?_
  refine w_block rfl ?_
  refine r_way ?_
  refine r_seq ?_
  refine r_reg ?_
  refine r_y (i := 0) (v := .pointer (some ⟨ag.a, 0, none⟩)) rfl (by decide) rfl y_move ?_
  refine r_y (i := 1) (v := .pointer (some ⟨ag.a, 0, none⟩)) rfl (by decide) rfl (y_nilCheck rfl) ?_
  refine r_y (i := 2) (v := .pointer (some ⟨ag.a, 1, none⟩)) rfl (by decide) rfl (y_fieldB rfl Try.underlying104 rfl sz101 rfl) ?_
  refine r_y (i := 3) (v := .chan (some ag.ct)) rfl (by decide) rfl (y_loadB rfl ag101 h_a rfl) ?_
  refine r_y (i := 4) (v := .agg #[]) rfl (by decide) rfl (y_build (ps := []) (cs := #[]) zr108 rfl pl108 rfl) ?_
  intro a ha
  refine RunM.le ?_ (keep_le hSM)
  refine run_step (ag := ag) (st := st) hT (M0 := keepM M S) (z' := .tuple #[]) (hM := fun g₂ => ∀ flag st' S', L.tr st S flag st' S' → L.inv S' → (∀ b o, keepM M S b = some o → S' b = none) → RunM Try.prog true (Go.Conc.served g₂ (.bool flag)) ⟨((keepM M S).join S').join L.ro, Well L Try.prog kd N W Post (fun a => if a = ag.a then (if flag = true then none else some (ag, st')) else tab a)⟩) hS (fun b o h => (keepM_some h).1) (fun b o h => ⟨(keepM_some h).2.2.1, (keepM_some h).2.2.2⟩) rfl
    (send_at rfl (by decide) ha rfl rfl) ?_ (fun g₂ h => h)
  rw [served_at rfl]
  have hq := ha.put (dst := none) rfl undef
  revert hq
  generalize a.put none undef = a1
  intro hq
  refine (show AtQ _ _ _ _ _ _ _ _ _ _ _ from ?_) a1 hq
  refine q_end ?_
  refine q_seq ?_
  refine q_reg ?_
  refine q_y (i := 0) (v := .pointer (some ⟨ag.a, 0, none⟩)) rfl (by decide) rfl calm_move y_move ?_
  refine q_y (i := 1) (v := .pointer (some ⟨ag.a, 0, none⟩)) rfl (by decide) rfl calm_move y_move ?_
  refine q_y (i := 2) (v := .pointer (some ⟨ag.a, 0, none⟩)) rfl (by decide) rfl (calm_nilCheck rfl) (y_nilCheck rfl) ?_
  refine q_y (i := 3) (v := .pointer (some ⟨ag.a, 2, none⟩)) rfl (by decide) rfl (calm_field rfl Try.underlying104 rfl sz102) (y_fieldB rfl Try.underlying104 rfl sz102 rfl) ?_
  refine q_y (i := 4) (v := .chan (some ag.cr)) rfl (by decide) rfl (calm_load rfl ag102) (y_loadB (b := ag.a) (o := 2) rfl ag102 (if_pos rfl) rfl) ?_
  refine q_at (i := 5) rfl (by decide) (run_recv (c := ag.cr) rfl Try.underlying102 rfl zr4) ?_
  intro a2 ha2 flag st' S' ht hi hd
  rw [served_at rfl]
  have hq2 := ha2.put (dst := some 21) rfl (.bool flag)
  revert hq2
  generalize a2.put (some 21) (.bool flag) = a3
  intro hq2
  have hka : keepM M S ag.a = some (agB ag false) := keepM_of hSa h_a rfl (ro_less (Nat.lt_succ_self 4))
  have hM1 : (Mem.mk (((keepM M S).join S').join L.ro) (Well L Try.prog kd N W Post (fun a => if a = ag.a then (if flag = true then none else some (ag, st')) else tab a))) ag.a = some (agB ag false) := Part.join_l (Part.join_l hka)
  refine (show AtF _ _ _ _ _ _ _ _ _ _ from ?_) a3 hq2
  refine r_y (i := 6) (v := .pointer (some ⟨ag.a, 0, none⟩)) rfl (by decide) rfl (y_nilCheck rfl) ?_
  refine r_y (i := 7) (v := .pointer (some ⟨ag.a, 4, none⟩)) rfl (by decide) rfl (y_fieldB rfl Try.underlying104 rfl sz4 rfl) ?_
  refine r_d (i := 8) rfl (by decide) (d_store1F (v := .bool flag) rfl rfl rfl rfl sz4 hM1 (Nat.lt_succ_self 4) (Nat.le_refl 4)) ?_
  refine r_end ?_
  refine r_code (by decide) ?_
  refine e_seq ?_
  refine e_reg rfl ?_
  refine l_y (v := .int .i64 0) y_assign ?_
  refine l_end ?_
  refine e_then ?_
  refine e_ret ?_
  exact r_ret (l := [.int .i64 0]) Try.func13 (.inl rfl) (resVals_cons (resVal_tmp rfl) resVals_nil) (Mem.le_refl _) (h1 _ _ ⟨rfl, flag, st', S', ht, hi, hd, rfl⟩)
set_option maxRecDepth 20000 in
theorem c_Stop {ag : Ag} {st : L.St} (hT : tab ag.a = some (ag, st)) {M S : Part} (hS : L.inv S) (hSM : ∀ b o, S b = some o → M b = some o) (h_a : M ag.a = some (agB ag false)) (hSa : S ag.a = none) :
    CallM Try.prog 9 #[.pointer (some ⟨ag.a, 0, none⟩)] ⟨M, Well L Try.prog kd N W Post tab⟩ (fun e m' => e = .returned (.tuple #[]) ∧ ∃ S', L.dd st S S' ∧ L.inv S' ∧ (∀ b o, keepM M S b = some o → S' b = none) ∧
      m' = (Mem.mk (((keepM M S).join S').join L.ro) (Well L Try.prog kd N W Post (fun a => if a = ag.a then none else tab a))).set ag.a (agB ag true)) := by
  unfold CallM
  intro main c cs h1 h2
  cases main with
  | false => exact well_other
  | true =>
  refine r_enter (args := [.pointer (some ⟨ag.a, 0, none⟩)]) Try.func9 rfl rfl rfl ?_
  refine r_seq ?_
  refine r_code (by decide) ?_
  refine e_seq ?_
  refine e_reg rfl ?_
  refine l_y (v := .pointer (some ⟨ag.a, 0, none⟩)) y_move ?_
  refine l_cr (v := .bool false) (e_call bd14 rfl (l := [.pointer (some ⟨ag.a, 0, none⟩)]) rfl) (c_Done ag.a 4 _ _ _ _ false _ h_a) ?_
  refine l_end ?_
  refine e_then ?_
  refine e_ifF (t := false) rfl rfl ?_
  refine e_skip ?_
  refine r_way ?_
  refine r_seq ?_
  refine r_reg ?_
  refine r_y (i := 0) (v := .pointer (some ⟨ag.a, 0, none⟩)) rfl (by decide) rfl y_move ?_
  refine r_y (i := 1) (v := .pointer (some ⟨ag.a, 0, none⟩)) rfl (by decide) rfl (y_nilCheck rfl) ?_
  refine r_y (i := 2) (v := .pointer (some ⟨ag.a, 3, none⟩)) rfl (by decide) rfl (y_fieldB rfl Try.underlying104 rfl sz101 rfl) ?_
  refine r_y (i := 3) (v := .chan (some ag.cd)) rfl (by decide) rfl (y_loadB rfl ag101 h_a rfl) ?_
  intro a ha
  refine RunM.le ?_ (keep_le hSM)
  refine run_stop (ag := ag) (st := st) hT (M0 := keepM M S) (hM := fun g₂ => ∀ S', L.dd st S S' → L.inv S' → (∀ b o, keepM M S b = some o → S' b = none) → RunM Try.prog true (Go.Conc.served g₂ (.bool true)) ⟨((keepM M S).join S').join L.ro, Well L Try.prog kd N W Post (fun a => if a = ag.a then none else tab a)⟩) hS (fun b o h => (keepM_some h).1) (fun b o h => ⟨(keepM_some h).2.2.1, (keepM_some h).2.2.2⟩) rfl (by rfl) rfl
    (close_at rfl (by decide) ha rfl (by kernel_rfl)) ?_ (fun g₂ h => h)
  have hq := ha.put (dst := none) rfl (.tuple #[])
  revert hq
  generalize a.put none (.tuple #[]) = a1
  intro hq
  refine (show AtQ _ _ _ _ _ _ _ _ _ _ _ from ?_) a1 hq
  refine q_end ?_
  refine q_reg ?_
  refine q_y (i := 0) (v := .pointer (some ⟨ag.a, 0, none⟩)) rfl (by decide) rfl calm_move y_move ?_
  refine q_y (i := 1) (v := .pointer (some ⟨ag.a, 0, none⟩)) rfl (by decide) rfl calm_move y_move ?_
  refine q_y (i := 2) (v := .pointer (some ⟨ag.a, 0, none⟩)) rfl (by decide) rfl (calm_nilCheck rfl) (y_nilCheck rfl) ?_
  refine q_y (i := 3) (v := .pointer (some ⟨ag.a, 2, none⟩)) rfl (by decide) rfl (calm_field rfl Try.underlying104 rfl sz102) (y_fieldB rfl Try.underlying104 rfl sz102 rfl) ?_
  refine q_y (i := 4) (v := .chan (some ag.cr)) rfl (by decide) rfl (calm_load rfl ag102) (y_loadB (b := ag.a) (o := 2) rfl ag102 (if_pos rfl) rfl) ?_
  refine q_at (i := 5) rfl (by decide) (run_recv (c := ag.cr) rfl Try.underlying102 rfl zr4) ?_
  intro a2 ha2 S' ht hi hd
  rw [served_at rfl]
  have hq2 := ha2.put (dst := some 13) rfl (.bool true)
  revert hq2
  generalize a2.put (some 13) (.bool true) = a3
  intro hq2
  have hka : keepM M S ag.a = some (agB ag false) := keepM_of hSa h_a rfl (ro_less (Nat.lt_succ_self 4))
  have hM1 : (Mem.mk (((keepM M S).join S').join L.ro) (Well L Try.prog kd N W Post (fun a => if a = ag.a then none else tab a))) ag.a = some (agB ag false) := Part.join_l (Part.join_l hka)
  refine (show AtF _ _ _ _ _ _ _ _ _ _ from ?_) a3 hq2
  refine r_y (i := 6) (v := .pointer (some ⟨ag.a, 0, none⟩)) rfl (by decide) rfl (y_nilCheck rfl) ?_
  refine r_y (i := 7) (v := .pointer (some ⟨ag.a, 4, none⟩)) rfl (by decide) rfl (y_fieldB rfl Try.underlying104 rfl sz4 rfl) ?_
  refine r_d (i := 8) rfl (by decide) (d_store1F (v := .bool true) rfl rfl rfl rfl sz4 hM1 (Nat.lt_succ_self 4) (Nat.le_refl 4)) ?_
  refine r_end ?_
  exact r_fin (l := []) Try.func9 (.inl rfl) resVals_nil (Mem.le_refl _) (h1 _ _ ⟨rfl, S', ht, hi, hd, rfl⟩)
end
end Go.Proofs.Ytpgooljdodijlaa
