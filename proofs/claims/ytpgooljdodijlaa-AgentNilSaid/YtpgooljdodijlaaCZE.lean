/-
  What is proved: for every input, demesnelaw12.AgentNil returns true, without a race, on every schedule; the input reads as it did. No condition.
-/
import Derived.Test.YtpgooljdodijlaaCZD
import Derived.Test.YtpgooljdodijlaaRows
import Derived.Conc.LeavingOf
import Derived.ProofKit
namespace Go.Proofs.Ytpgooljdodijlaa
open Go Go.Sp Go.Conc Go.RowKit
attribute [local irreducible] Code.wps OpsS OpsL Oper.wps Sem.wpm CallM RunM
set_option linter.unusedSimpArgs false
set_option linter.unusedVariables false
theorem bd9 : bodied Try.prog 9 = true := by kernel_rfl
/-- What is so behind a law: it returned true, and what lay there before lies there as it did. -/
def PostL (W : World) (v : Value) (w' : World) : Prop := v = .bool true ∧ Below W.heap.size W w'
def noRo : Part := fun _ => none
theorem noRo_ro : ∀ b o, noRo b = some o → RO o := fun _ _ h => by cases h
set_option maxRecDepth 20000 in
theorem agentNil_run (W : World) (n : Int) : EndsW Try.prog (PostL W) (solo (G (Frame.enter Try.prog 3 #[.int .u8 n] .normal) []) W) #[] := by
  refine law_ends (L := roL noRo noRo_ro) (fun b o h => by cases h) (run_law (args := [.int .u8 n]) Try.func3 rfl rfl (by kernel_rfl) (fun w hw => ⟨rfl, hw⟩) rfl rfl ?_)
  repeat (refine e_seq ?_)
  refine e_reg rfl ?_
  refine l_n (n_box (v := .int .u8 n) rfl) fun b1 hb1 => ?_
  refine l_y (v := .bool false) y_assign ?_
  refine l_end ?_
  refine e_then ?_
  repeat (refine e_seq ?_)
  refine e_reg rfl ?_
  refine l_y (v := .pointer none) y_assign ?_
  refine l_end ?_
  refine e_then ?_
  repeat (refine e_seq ?_)
  refine e_reg rfl ?_
  refine l_y (v := .pointer none) y_move ?_
  refine l_cr (e_call bd9 rfl (l := [.pointer none]) rfl) (c_Stop_nil _) ?_
  refine l_end ?_
  refine e_then ?_
  repeat (refine e_seq ?_)
  refine e_reg rfl ?_
  refine l_c (e_call bd10 rfl (l := [.int .i64 ((1 : Nat) : Int)]) rfl) (c_aNew 1 (by decide) (by decide) _) ?_
  rintro e m' ⟨bw, ba, hbw, hba, rfl, rfl⟩
  refine l_y (v := .tuple #[.pointer (some ⟨ba, 0, none⟩), .int .i64 0]) y_move ?_
  refine l_y (v := .pointer (some ⟨ba, 0, none⟩)) (y_extract rfl rfl) ?_
  refine l_y (v := .int .i64 0) (y_extract rfl rfl) ?_
  refine l_y (v := .pointer (some ⟨ba, 0, none⟩)) y_assign ?_
  refine l_y (v := .int .i64 0) y_assign ?_
  refine l_end ?_
  refine e_then ?_
  repeat (refine e_seq ?_)
  refine e_reg rfl ?_
  refine l_y (v := .func (.func 12) #[] #[.pointer (some ⟨b1, 0, none⟩)]) (y_makeFunc (l := []) (k := [.pointer (some ⟨b1, 0, none⟩)]) rfl rfl) ?_
  refine l_cr (e_call bd11 rfl (l := [.nilIface, .func (.func 12) #[] #[.pointer (some ⟨b1, 0, none⟩)]]) rfl) (c_New_nil1 _ _) ?_
  refine l_y (v := .tuple #[.pointer none, .int .i64 1]) y_move ?_
  refine l_y (v := .pointer none) (y_extract rfl rfl) ?_
  refine l_y (v := .int .i64 1) (y_extract rfl rfl) ?_
  refine l_y (v := .pointer none) y_assign ?_
  refine l_y (v := .int .i64 1) y_assign ?_
  refine l_end ?_
  refine e_then ?_
  repeat (refine e_seq ?_)
  refine e_reg rfl ?_
  refine l_y (v := .pointer (some ⟨ba, 0, none⟩)) y_move ?_
  refine l_y (v := .iface 23 (.pointer (some ⟨ba, 0, none⟩))) (y_iface rfl if23) ?_
  refine l_cr (e_call bd11 rfl (l := [.iface 23 (.pointer (some ⟨ba, 0, none⟩)), .nilFunc]) rfl) (c_New_nil2 ba 0 _) ?_
  refine l_y (v := .tuple #[.pointer none, .int .i64 1]) y_move ?_
  refine l_y (v := .pointer none) (y_extract rfl rfl) ?_
  refine l_y (v := .int .i64 1) (y_extract rfl rfl) ?_
  refine l_y (v := .pointer none) y_assign ?_
  refine l_y (v := .int .i64 1) y_assign ?_
  refine l_end ?_
  refine e_then ?_
  repeat (refine e_seq ?_)
  refine e_reg rfl ?_
  refine l_y (v := .pointer none) y_move ?_
  refine l_cr (e_call bd13 rfl (l := [.pointer none]) rfl) (c_Step_nil _) ?_
  refine l_y (v := .bool true) (y_int (p := 1) (q := 1) rfl rfl rfl) ?_
  refine l_y (v := .bool true) y_move ?_
  refine g_y (v := .pointer none) (b := true) rfl rfl rfl rfl y_move ?_
  refine g_cr (v := .bool true) (b := true) rfl rfl rfl rfl (e_call bd14 rfl (l := [.pointer none]) rfl) (c_Done_nil _) ?_
  refine l_y (v := .bool true) (y_pickT (t := true) rfl rfl rfl) ?_
  refine l_y (v := .bool true) y_move ?_
  refine g_y (v := .pointer none) (b := true) rfl rfl rfl rfl y_move ?_
  refine g_y (v := .bool true) (b := true) rfl rfl rfl rfl (y_eql (r := true) rfl rfl rfl rfl) ?_
  refine l_y (v := .bool true) (y_pickT (t := true) rfl rfl rfl) ?_
  refine l_y (v := .bool true) y_move ?_
  refine g_y (v := .int .i64 1) (b := true) rfl rfl rfl rfl y_move ?_
  refine g_y (v := .bool true) (b := true) rfl rfl rfl rfl (y_int (p := 1) (q := 1) rfl rfl rfl) ?_
  refine l_y (v := .bool true) (y_pickT (t := true) rfl rfl rfl) ?_
  refine l_y (v := .bool true) y_move ?_
  refine g_y (v := .pointer none) (b := true) rfl rfl rfl rfl y_move ?_
  refine g_y (v := .bool true) (b := true) rfl rfl rfl rfl (y_eql (r := true) rfl rfl rfl rfl) ?_
  refine l_y (v := .bool true) (y_pickT (t := true) rfl rfl rfl) ?_
  refine l_y (v := .bool true) y_move ?_
  refine g_y (v := .int .i64 1) (b := true) rfl rfl rfl rfl y_move ?_
  refine g_y (v := .bool true) (b := true) rfl rfl rfl rfl (y_int (p := 1) (q := 1) rfl rfl rfl) ?_
  refine l_y (v := .bool true) (y_pickT (t := true) rfl rfl rfl) ?_
  refine l_y (v := .bool true) y_move ?_
  refine g_c (b := true) rfl rfl rfl rfl (e_call bd15 rfl (l := []) rfl) (c_wakes (L := roL noRo noRo_ro) (N := W.heap.size) (W := W) (Post := PostL W) (fun b o h => by cases h)) ?_
  rintro e m' ⟨hst, rfl⟩
  refine l_y (v := .bool true) (y_pickT (t := true) rfl rfl rfl) ?_
  refine l_y (v := .bool true) y_assign ?_
  refine l_end ?_
  refine e_then ?_
  refine e_ret ?_
  exact law_ret rfl hst
open Go.ChangeShapes Go.WideShapes Go.ChangeAt
theorem Try.own : ownKnob Try.prog.godebug = none := by kernel_rfl
set_option maxRecDepth 100000 in
theorem agentNil_lifted (os : Os) (started : os.Started) (H : Type) (enc : TypeId × Value → H) :
    ReturnsInLeavingWide {} Try.checked os 3 .any (Rows.agentNilSpec.pre6 enc Try.prog Try.f3 Rows.agentNilRow.domain false) (Rows.agentNilSpec.post enc Try.prog Try.f3 false true false false) := by
  refine returnsInLeavingWide_of_change_sized (C := Try.checked) Try.own started Try.func3
    (ChangeSpec.witness6 (enc := enc) (C := Try.checked) false ⟨#[], #[.int .u8 0], []⟩ 8 (by kernel_rfl) (by kernel_rfl) (by kernel_rfl) (by kernel_rfl)) ?_
  intro W base args ds gs before hval0 hW _ _ _
  have hval : ∀ (j : Nat) t v, Try.f3.params[j]? = some t → args[j]? = some v → Value.okWide Try.prog W .any base t v := hval0
  have hW' := hW
  obtain ⟨p, q, hA0, hV, rfl, _, _⟩ := hW
  have hA : DataW.TrodAll enc Try.prog W 0 (fun _ => true) true Try.f3.params.toList args.toList ds p := hA0
  rw [Try.params3] at hA hval
  obtain ⟨v0, d0, rfl, rfl, h0⟩ := trodAll_one hA
  obtain ⟨rfl, rfl⟩ := trodVars_none hV
  obtain ⟨a, rfl, rfl, rfl, wa⟩ := open_int Try.underlying5 (hval 0 5 v0 rfl rfl) h0
  clear hA0 hval0
  try simp only [List.append_nil] at hW'
  obtain ⟨M, last, o, w', t', r1, r2, r3, r4⟩ := agentNil_run W a
  refine ⟨M, last, o, w', t', r1, r2, r3, r4.mono fun v hF => ?_⟩
  obtain ⟨rfl, hbelow⟩ : PostL W v w' := hF
  exact ⟨_, _, _, [], _, [], hW', trodAll_mk1 (shut_bool Try.underlying4 true), trodAll_mk1 (shut_int Try.underlying5 wa), rfl, hbelow.frame _, fun h => by cases h⟩
theorem agentNil_holds : Rows.AgentNilSaid :=
  OpenClaim.holds_of_wide_leaving 3 Try.f3 rfl rfl rfl rfl rfl rfl rfl ⟨rfl, rfl, rfl, rfl, rfl⟩ rfl rfl rfl rfl rfl (by kernel_rfl) Try.func3 (by kernel_rfl)
    (of_decide_eq_true (by kernel_rfl)) (by unfold Func.isWrapper; first | (rw [if_pos (by decide +kernel)]; kernel_rfl) | (rw [if_neg (by decide +kernel)]; exact ⟨rfl, rfl⟩))
    (fun os started H enc _ => agentNil_lifted os started H enc)
#print axioms agentNil_holds
end Go.Proofs.Ytpgooljdodijlaa
