/-
  What is proved: what functions answer, one theorem a function (printed by a program). Conditions: those that each theorem names.
-/
import Derived.Test.YtpgooljdodijlaaCF
import Derived.Test.YtpgooljdodijlaaProg
import Derived.KernelRfl

namespace Go.Proofs.Ytpgooljdodijlaa
open Go Go.Sp
attribute [local irreducible] Code.wps OpsS OpsL Oper.wps Sem.wpm CallM RunM
set_option linter.unusedSimpArgs false
set_option linter.unusedVariables false
theorem ag4 : aggOf Try.prog 4 = some false := by kernel_rfl
theorem sz4 : szOf Try.prog 4 = some 1 := by kernel_rfl
theorem bd14 : bodied Try.prog 14 = true := by kernel_rfl
set_option maxRecDepth 20000 in
theorem c_Done (a k : Nat) (mi v1 v2 v3 : Value) (d : Bool) (m : Mem) (h_a : m a = some (.cells #[mi, v1, v2, v3, .bool d] 104 (0, k))) : CallM Try.prog 14 #[.pointer (some ⟨a, 0, none⟩)] m (Ret (.bool d) m) := by
  refine callM_body (args := [.pointer (some ⟨a, 0, none⟩)]) Try.func14 rfl rfl rfl ?_
  refine e_seq ?_
  refine e_reg rfl ?_
  refine l_y (v := .bool false) (y_assign) ?_
  refine l_end ?_
  refine e_then ?_
  refine e_seq ?_
  refine e_reg rfl ?_
  refine l_y (v := .pointer (some ⟨a, 0, none⟩)) (y_move) ?_
  refine l_y (v := .bool false) (y_eql (r := false) rfl rfl rfl rfl) ?_
  refine l_y (v := .bool false) (y_move) ?_
  refine g_y (v := .pointer (some ⟨a, 0, none⟩)) (b := false) rfl rfl rfl rfl (y_move) ?_
  refine g_y (v := .pointer (some ⟨a, 0, none⟩)) (b := false) rfl rfl rfl rfl (y_nilCheck rfl) ?_
  refine g_y (v := .pointer (some ⟨a, 4, none⟩)) (b := false) rfl rfl rfl rfl (y_fieldB rfl Try.underlying104 rfl sz4 rfl) ?_
  refine g_y (v := .bool d) (b := false) rfl rfl rfl rfl (y_loadB rfl ag4 h_a rfl) ?_
  refine l_y (v := .bool d) (y_pickF (t := false) rfl rfl rfl) ?_
  refine l_y (v := .bool d) (y_assign) ?_
  refine l_end ?_
  refine e_then ?_
  refine e_ret ?_
  exact body_ret (l := [.bool d]) (resVals_cons (resVal_tmp rfl) resVals_nil) (le_keep0 keep_refl) ⟨rfl, rfl⟩
set_option maxRecDepth 20000 in
theorem c_Done_nil (m : Mem) : CallM Try.prog 14 #[.pointer none] m (Ret (.bool true) m) := by
  refine callM_body (args := [.pointer none]) Try.func14 rfl rfl rfl ?_
  refine e_seq ?_
  refine e_reg rfl ?_
  refine l_y (v := .bool false) (y_assign) ?_
  refine l_end ?_
  refine e_then ?_
  refine e_seq ?_
  refine e_reg rfl ?_
  refine l_y (v := .pointer none) (y_move) ?_
  refine l_y (v := .bool true) (y_eql (r := true) rfl rfl rfl rfl) ?_
  refine l_y (v := .bool true) (y_move) ?_
  refine g_x (b := true) rfl rfl rfl rfl ?_
  refine g_x (b := true) rfl rfl rfl rfl ?_
  refine g_x (b := true) rfl rfl rfl rfl ?_
  refine g_x (b := true) rfl rfl rfl rfl ?_
  refine l_y (v := .bool true) (y_pickT (t := true) rfl rfl rfl) ?_
  refine l_y (v := .bool true) (y_assign) ?_
  refine l_end ?_
  refine e_then ?_
  refine e_ret ?_
  exact body_ret (l := [.bool true]) (resVals_cons (resVal_tmp rfl) resVals_nil) (le_keep0 keep_refl) ⟨rfl, rfl⟩
set_option maxRecDepth 20000 in
theorem c_Stop_nil (m : Mem) : CallM Try.prog 9 #[.pointer none] m (Ret (.tuple #[]) m) := by
  refine callM_body (args := [.pointer none]) Try.func9 rfl rfl rfl ?_
  refine e_seq ?_
  refine e_seq ?_
  refine e_reg rfl ?_
  refine l_y (v := .pointer none) (y_move) ?_
  refine l_cr (v := .bool true) (e_call bd14 rfl (l := [.pointer none]) rfl) (c_Done_nil _) ?_
  refine l_end ?_
  refine e_then ?_
  refine e_ifT (t := true) rfl rfl ?_
  refine e_ret ?_
  refine w_then rfl ?_
  exact body_ret (l := []) resVals_nil (le_keep0 keep_refl) ⟨rfl, rfl⟩
set_option maxRecDepth 20000 in
theorem c_Stop_done (a k : Nat) (mi v1 v2 v3 : Value) (m : Mem) (h_a : m a = some (.cells #[mi, v1, v2, v3, .bool true] 104 (0, k))) : CallM Try.prog 9 #[.pointer (some ⟨a, 0, none⟩)] m (Ret (.tuple #[]) m) := by
  refine callM_body (args := [.pointer (some ⟨a, 0, none⟩)]) Try.func9 rfl rfl rfl ?_
  refine e_seq ?_
  refine e_seq ?_
  refine e_reg rfl ?_
  refine l_y (v := .pointer (some ⟨a, 0, none⟩)) (y_move) ?_
  refine l_cr (v := .bool true) (e_call bd14 rfl (l := [.pointer (some ⟨a, 0, none⟩)]) rfl) (c_Done a k mi v1 v2 v3 true _ h_a) ?_
  refine l_end ?_
  refine e_then ?_
  refine e_ifT (t := true) rfl rfl ?_
  refine e_ret ?_
  refine w_then rfl ?_
  exact body_ret (l := []) resVals_nil (le_keep0 keep_refl) ⟨rfl, rfl⟩
set_option maxRecDepth 20000 in
theorem c_Step_nil (m : Mem) : CallM Try.prog 13 #[.pointer none] m (Ret (.int .i64 1) m) := by
  refine callM_body (args := [.pointer none]) Try.func13 rfl rfl rfl ?_
  refine e_seq ?_
  refine e_reg rfl ?_
  refine l_y (v := .int .i64 0) (y_assign) ?_
  refine l_end ?_
  refine e_then ?_
  refine e_seq ?_
  refine e_block ?_
  refine e_seq ?_
  refine e_reg rfl ?_
  refine l_y (v := .pointer none) (y_move) ?_
  refine l_y (v := .bool true) (y_eql (r := true) rfl rfl rfl rfl) ?_
  refine l_y (v := .bool true) (y_assign) ?_
  refine l_end ?_
  refine e_then ?_
  refine e_ifT (t := true) rfl rfl ?_
  refine e_seq ?_
  refine e_reg rfl ?_
  refine l_y (v := .int .i64 1) (y_assign) ?_
  refine l_end ?_
  refine e_then ?_
  refine e_ret ?_
  refine w_block rfl ?_
  refine w_then rfl ?_
  exact body_ret (l := [.int .i64 1]) (resVals_cons (resVal_tmp rfl) resVals_nil) (le_keep0 keep_refl) ⟨rfl, rfl⟩
set_option maxRecDepth 20000 in
theorem c_Step_done (a k : Nat) (mi v1 v2 v3 : Value) (m : Mem) (h_a : m a = some (.cells #[mi, v1, v2, v3, .bool true] 104 (0, k))) : CallM Try.prog 13 #[.pointer (some ⟨a, 0, none⟩)] m (Ret (.int .i64 6) m) := by
  refine callM_body (args := [.pointer (some ⟨a, 0, none⟩)]) Try.func13 rfl rfl rfl ?_
  refine e_seq ?_
  refine e_reg rfl ?_
  refine l_y (v := .int .i64 0) (y_assign) ?_
  refine l_end ?_
  refine e_then ?_
  refine e_seq ?_
  refine e_block ?_
  refine e_seq ?_
  refine e_reg rfl ?_
  refine l_y (v := .pointer (some ⟨a, 0, none⟩)) (y_move) ?_
  refine l_y (v := .bool false) (y_eql (r := false) rfl rfl rfl rfl) ?_
  refine l_y (v := .bool false) (y_assign) ?_
  refine l_end ?_
  refine e_then ?_
  refine e_ifF (t := false) rfl rfl ?_
  refine e_seq ?_
  refine e_reg rfl ?_
  refine l_y (v := .pointer (some ⟨a, 0, none⟩)) (y_move) ?_
  refine l_y (v := .pointer (some ⟨a, 0, none⟩)) (y_nilCheck rfl) ?_
  refine l_y (v := .pointer (some ⟨a, 4, none⟩)) (y_fieldB rfl Try.underlying104 rfl sz4 rfl) ?_
  refine l_y (v := .bool true) (y_loadB rfl ag4 h_a rfl) ?_
  refine l_y (v := .bool true) (y_assign) ?_
  refine l_end ?_
  refine e_then ?_
  refine e_ifT (t := true) rfl rfl ?_
  refine e_seq ?_
  refine e_reg rfl ?_
  refine l_y (v := .int .i64 6) (y_assign) ?_
  refine l_end ?_
  refine e_then ?_
  refine e_ret ?_
  refine w_block rfl ?_
  refine w_then rfl ?_
  exact body_ret (l := [.int .i64 6]) (resVals_cons (resVal_tmp rfl) resVals_nil) (le_keep0 keep_refl) ⟨rfl, rfl⟩
set_option maxRecDepth 20000 in
theorem c_New_nil1 (fv : Value) (m : Mem) : CallM Try.prog 11 #[.nilIface, fv] m (Ret (.tuple #[.pointer none, .int .i64 1]) m) := by
  refine callM_body (args := [.nilIface, fv]) Try.func11 rfl rfl rfl ?_
  refine e_seq ?_
  refine e_reg rfl ?_
  refine l_y (v := .pointer none) (y_assign) ?_
  refine l_y (v := .int .i64 0) (y_assign) ?_
  refine l_end ?_
  refine e_then ?_
  refine e_seq ?_
  refine e_seq ?_
  refine e_reg rfl ?_
  refine l_y (v := .nilIface) (y_move) ?_
  refine l_y (v := .bool true) (y_eql (r := true) rfl rfl rfl rfl) ?_
  refine l_y (v := .bool true) (y_move) ?_
  refine g_x (b := true) rfl rfl rfl rfl ?_
  refine g_x (b := true) rfl rfl rfl rfl ?_
  refine l_y (v := .bool true) (y_pickT (t := true) rfl rfl rfl) ?_
  refine l_end ?_
  refine e_then ?_
  refine e_ifT (t := true) rfl rfl ?_
  refine e_seq ?_
  refine e_reg rfl ?_
  refine l_y (v := .pointer none) (y_assign) ?_
  refine l_y (v := .int .i64 1) (y_assign) ?_
  refine l_end ?_
  refine e_then ?_
  refine e_ret ?_
  refine w_then rfl ?_
  exact body_ret (l := [.pointer none, .int .i64 1]) (resVals_cons (resVal_tmp rfl) (resVals_cons (resVal_tmp rfl) resVals_nil)) (le_keep0 keep_refl) ⟨rfl, rfl⟩
set_option maxRecDepth 20000 in
theorem c_New_nil2 (b o : Nat) (m : Mem) : CallM Try.prog 11 #[.iface 23 (.pointer (some ⟨b, o, none⟩)), .nilFunc] m (Ret (.tuple #[.pointer none, .int .i64 1]) m) := by
  refine callM_body (args := [.iface 23 (.pointer (some ⟨b, o, none⟩)), .nilFunc]) Try.func11 rfl rfl rfl ?_
  refine e_seq ?_
  refine e_reg rfl ?_
  refine l_y (v := .pointer none) (y_assign) ?_
  refine l_y (v := .int .i64 0) (y_assign) ?_
  refine l_end ?_
  refine e_then ?_
  refine e_seq ?_
  refine e_seq ?_
  refine e_reg rfl ?_
  refine l_y (v := .iface 23 (.pointer (some ⟨b, o, none⟩))) (y_move) ?_
  refine l_y (v := .bool false) (y_eql (r := false) rfl rfl rfl rfl) ?_
  refine l_y (v := .bool false) (y_move) ?_
  refine g_y (v := .nilFunc) (b := false) rfl rfl rfl rfl (y_move) ?_
  refine g_y (v := .bool true) (b := false) rfl rfl rfl rfl (y_eql (r := true) rfl rfl rfl rfl) ?_
  refine l_y (v := .bool true) (y_pickF (t := false) rfl rfl rfl) ?_
  refine l_end ?_
  refine e_then ?_
  refine e_ifT (t := true) rfl rfl ?_
  refine e_seq ?_
  refine e_reg rfl ?_
  refine l_y (v := .pointer none) (y_assign) ?_
  refine l_y (v := .int .i64 1) (y_assign) ?_
  refine l_end ?_
  refine e_then ?_
  refine e_ret ?_
  refine w_then rfl ?_
  exact body_ret (l := [.pointer none, .int .i64 1]) (resVals_cons (resVal_tmp rfl) (resVals_cons (resVal_tmp rfl) resVals_nil)) (le_keep0 keep_refl) ⟨rfl, rfl⟩
end Go.Proofs.Ytpgooljdodijlaa
