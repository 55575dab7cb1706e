/-
  What is proved: what functions answer, one theorem a function (printed by a program). Conditions: those that each theorem names.
-/
import Derived.Test.YtpgooljdodijlaaCF
import Derived.Test.YtpgooljdodijlaaProg
import Derived.KernelRfl

namespace Go.Proofs.Ytpgooljdodijlaa
open Go Go.Sp
attribute [local irreducible] Code.wps OpsS OpsL Oper.wps Sem.wpm CallM RunM
set_option linter.unusedSimpArgs false
set_option linter.unusedVariables false
theorem sz3 : szOf Try.prog 3 = some 1 := by kernel_rfl
theorem ag31 : aggOf Try.prog 31 = some false := by kernel_rfl
theorem sz31 : szOf Try.prog 31 = some 1 := by kernel_rfl
theorem zr31 : zeroOf Try.prog 31 = some (.int .u64 0) := by kernel_rfl
theorem ag47 : aggOf Try.prog 47 = some false := by kernel_rfl
theorem el47 : elemOfS Try.prog 47 = some 31 := by kernel_rfl
theorem sz47 : szOf Try.prog 47 = some 1 := by kernel_rfl
theorem bd50 : bodied Try.prog 50 = true := by kernel_rfl
theorem bd51 : bodied Try.prog 51 = true := by kernel_rfl
theorem bd61 : bodied Try.prog 61 = true := by kernel_rfl
theorem bd76 : bodied Try.prog 76 = true := by kernel_rfl
theorem bd77 : bodied Try.prog 77 = true := by kernel_rfl
theorem if134 : plainOf Try.prog 134 = true := by kernel_rfl
set_option maxRecDepth 20000 in
theorem c_at (ba bw j n : Nat) (tc la : Int) (m : Mem) (h_ba : m ba = some (.cells #[.slice (some ⟨bw, 0, none⟩) n n, .int .u64 tc, .int .i64 la] 106)) (hj : j < n) : CallM Try.prog 77 #[.pointer (some ⟨ba, 0, none⟩), .int .i64 ((j : Nat) : Int)] m (Ret (.pointer (some ⟨bw, j, none⟩)) (m.set ba (.cells #[.slice (some ⟨bw, 0, none⟩) n n, .int .u64 (IntKind.u64.wrap (tc + 1)), .int .i64 ((j : Nat) : Int)] 106))) := by
  have d1 : decide (((j : Nat) : Int) < 0) = false := by simp
  have d2 : decide (((j : Nat) : Int) ≥ ((n : Nat) : Int)) = false := by simpa using hj
  refine callM_body (args := [.pointer (some ⟨ba, 0, none⟩), .int .i64 ((j : Nat) : Int)]) Try.func77 rfl rfl rfl ?_
  refine e_seq ?_
  refine e_reg rfl ?_
  refine l_y (v := .pointer none) (y_assign) ?_
  refine l_end ?_
  refine e_then ?_
  refine e_seq ?_
  refine e_seq ?_
  refine e_reg rfl ?_
  refine l_y (v := .pointer (some ⟨ba, 0, none⟩)) (y_move) ?_
  refine l_y (v := .bool false) (y_eql (r := false) rfl rfl rfl rfl) ?_
  refine l_y (v := .bool false) (y_move) ?_
  refine g_y (v := .int .i64 ((j : Nat) : Int)) (b := false) rfl rfl rfl rfl (y_move) ?_
  refine g_y (v := .bool (decide (((j : Nat) : Int) < 0))) (b := false) rfl rfl rfl rfl (y_int (p := ((j : Nat) : Int)) (q := 0) rfl rfl rfl) ?_
  refine l_y (v := .bool (decide (((j : Nat) : Int) < 0))) (y_pickF (t := false) rfl rfl rfl) ?_
  refine l_y (v := .bool (decide (((j : Nat) : Int) < 0))) (y_move) ?_
  refine g_y (v := .int .i64 ((j : Nat) : Int)) (b := decide (((j : Nat) : Int) < 0)) rfl rfl rfl d1 (y_move) ?_
  refine g_y (v := .pointer (some ⟨ba, 0, none⟩)) (b := decide (((j : Nat) : Int) < 0)) rfl rfl rfl d1 (y_move) ?_
  refine g_y (v := .pointer (some ⟨ba, 0, none⟩)) (b := decide (((j : Nat) : Int) < 0)) rfl rfl rfl d1 (y_nilCheck rfl) ?_
  refine g_y (v := .pointer (some ⟨ba, 0, none⟩)) (b := decide (((j : Nat) : Int) < 0)) rfl rfl rfl d1 (y_fieldB rfl Try.underlying106 rfl sz47 rfl) ?_
  refine g_y (v := .slice (some ⟨bw, 0, none⟩) n n) (b := decide (((j : Nat) : Int) < 0)) rfl rfl rfl d1 (y_loadB rfl ag47 h_ba rfl) ?_
  refine g_y (v := .int .i64 ((n : Nat) : Int)) (b := decide (((j : Nat) : Int) < 0)) rfl rfl rfl d1 (y_len (b := (some ⟨bw, 0, none⟩)) (n := n) (c := n) rfl rfl el47) ?_
  refine g_y (v := .bool (decide (((j : Nat) : Int) ≥ ((n : Nat) : Int)))) (b := decide (((j : Nat) : Int) < 0)) rfl rfl rfl d1 (y_int (p := ((j : Nat) : Int)) (q := ((n : Nat) : Int)) rfl rfl rfl) ?_
  refine l_y (v := .bool (decide (((j : Nat) : Int) ≥ ((n : Nat) : Int)))) (y_pickF (t := decide (((j : Nat) : Int) < 0)) rfl d1 rfl) ?_
  refine l_end ?_
  refine e_then ?_
  refine e_ifF (t := decide (((j : Nat) : Int) ≥ ((n : Nat) : Int))) rfl d2 ?_
  refine e_skip ?_
  refine e_then ?_
  refine e_seq ?_
  refine e_reg rfl ?_
  refine l_y (v := .pointer (some ⟨ba, 0, none⟩)) (y_move) ?_
  refine l_y (v := .pointer (some ⟨ba, 0, none⟩)) (y_nilCheck rfl) ?_
  refine l_y (v := .pointer (some ⟨ba, 1, none⟩)) (y_fieldB rfl Try.underlying106 rfl sz31 rfl) ?_
  refine l_y (v := .int .u64 tc) (y_loadB rfl ag31 h_ba rfl) ?_
  refine l_y (v := .int .u64 (IntKind.u64.wrap (tc + 1))) (y_int (p := tc) (q := 1) rfl rfl rfl) ?_
  refine l_y (v := .pointer (some ⟨ba, 0, none⟩)) (y_nilCheck rfl) ?_
  refine l_y (v := .pointer (some ⟨ba, 1, none⟩)) (y_fieldB rfl Try.underlying106 rfl sz31 rfl) ?_
  refine l_d (m' := _) (d_storeB (v := .int .u64 (IntKind.u64.wrap (tc + 1))) (c' := #[.slice (some ⟨bw, 0, none⟩) n n, .int .u64 (IntKind.u64.wrap (tc + 1)), .int .i64 la]) rfl rfl sz31 h_ba rfl rfl (Nat.le_of_ble_eq_true rfl) rfl) ?_
  refine l_end ?_
  refine e_then ?_
  refine e_seq ?_
  refine e_reg rfl ?_
  refine l_y (v := .pointer (some ⟨ba, 0, none⟩)) (y_move) ?_
  refine l_y (v := .int .i64 ((j : Nat) : Int)) (y_move) ?_
  refine l_y (v := .pointer (some ⟨ba, 0, none⟩)) (y_nilCheck rfl) ?_
  refine l_y (v := .pointer (some ⟨ba, 2, none⟩)) (y_fieldB rfl Try.underlying106 rfl sz3 rfl) ?_
  refine l_d (m' := _) (d_storeB (v := .int .i64 ((j : Nat) : Int)) (c' := #[.slice (some ⟨bw, 0, none⟩) n n, .int .u64 (IntKind.u64.wrap (tc + 1)), .int .i64 ((j : Nat) : Int)]) rfl rfl sz3 (show _ = some (Obj.cells #[.slice (some ⟨bw, 0, none⟩) n n, .int .u64 (IntKind.u64.wrap (tc + 1)), .int .i64 la] 106 (0, 0)) from (Mem.hit _ ba _)) rfl rfl (Nat.le_of_ble_eq_true rfl) rfl) ?_
  refine l_end ?_
  refine e_then ?_
  refine e_seq ?_
  refine e_reg rfl ?_
  refine l_y (v := .pointer (some ⟨ba, 0, none⟩)) (y_move) ?_
  refine l_y (v := .pointer (some ⟨ba, 0, none⟩)) (y_nilCheck rfl) ?_
  refine l_y (v := .pointer (some ⟨ba, 0, none⟩)) (y_fieldB rfl Try.underlying106 rfl sz47 rfl) ?_
  refine l_y (v := .slice (some ⟨bw, 0, none⟩) n n) (y_loadB rfl ag47 (show _ = some (Obj.cells #[.slice (some ⟨bw, 0, none⟩) n n, .int .u64 (IntKind.u64.wrap (tc + 1)), .int .i64 ((j : Nat) : Int)] 106 (0, 0)) from (Mem.hit _ ba _)) rfl) ?_
  refine l_y (v := .int .i64 ((j : Nat) : Int)) (y_move) ?_
  refine l_y (v := .pointer (some ⟨bw, j, none⟩)) (y_indexB (o := 0) (j := ((j : Nat) : Int)) (n := n) (c := n) rfl rfl el47 sz31 (by omega) (by omega) (by simp)) ?_
  refine l_y (v := .pointer (some ⟨bw, j, none⟩)) (y_assign) ?_
  refine l_end ?_
  refine e_then ?_
  refine e_ret ?_
  exact body_ret (l := [.pointer (some ⟨bw, j, none⟩)]) (resVals_cons (resVal_tmp rfl) resVals_nil) (le_keep1 (keep_root (keep_root keep_refl (by simp)) (by simp)) (show _ = some (Obj.cells #[.slice (some ⟨bw, 0, none⟩) n n, .int .u64 (IntKind.u64.wrap (tc + 1)), .int .i64 ((j : Nat) : Int)] 106 (0, 0)) from (Mem.hit _ ba _))) ⟨rfl, rfl⟩
set_option maxRecDepth 20000 in
theorem c_at_neg (ba bw n : Nat) (tc la at_ : Int) (m : Mem) (h_ba : m ba = some (.cells #[.slice (some ⟨bw, 0, none⟩) n n, .int .u64 tc, .int .i64 la] 106)) (d1 : decide (at_ < 0) = true) : CallM Try.prog 77 #[.pointer (some ⟨ba, 0, none⟩), .int .i64 at_] m (Pan (.iface 134 (.int .i64 at_)) m) := by
  refine callM_body (args := [.pointer (some ⟨ba, 0, none⟩), .int .i64 at_]) Try.func77 rfl rfl rfl ?_
  refine e_seq ?_
  refine e_reg rfl ?_
  refine l_y (v := .pointer none) (y_assign) ?_
  refine l_end ?_
  refine e_then ?_
  refine e_seq ?_
  refine e_seq ?_
  refine e_reg rfl ?_
  refine l_y (v := .pointer (some ⟨ba, 0, none⟩)) (y_move) ?_
  refine l_y (v := .bool false) (y_eql (r := false) rfl rfl rfl rfl) ?_
  refine l_y (v := .bool false) (y_move) ?_
  refine g_y (v := .int .i64 at_) (b := false) rfl rfl rfl rfl (y_move) ?_
  refine g_y (v := .bool (decide (at_ < 0))) (b := false) rfl rfl rfl rfl (y_int (p := at_) (q := 0) rfl rfl rfl) ?_
  refine l_y (v := .bool (decide (at_ < 0))) (y_pickF (t := false) rfl rfl rfl) ?_
  refine l_y (v := .bool (decide (at_ < 0))) (y_move) ?_
  refine g_x (b := decide (at_ < 0)) rfl rfl rfl d1 ?_
  refine g_x (b := decide (at_ < 0)) rfl rfl rfl d1 ?_
  refine g_x (b := decide (at_ < 0)) rfl rfl rfl d1 ?_
  refine g_x (b := decide (at_ < 0)) rfl rfl rfl d1 ?_
  refine g_x (b := decide (at_ < 0)) rfl rfl rfl d1 ?_
  refine g_x (b := decide (at_ < 0)) rfl rfl rfl d1 ?_
  refine g_x (b := decide (at_ < 0)) rfl rfl rfl d1 ?_
  refine l_y (v := .bool true) (y_pickT (t := decide (at_ < 0)) rfl d1 rfl) ?_
  refine l_end ?_
  refine e_then ?_
  refine e_ifT (t := true) rfl rfl ?_
  refine e_reg rfl ?_
  refine l_y (v := .int .i64 at_) (y_move) ?_
  refine l_y (v := .iface 134 (.int .i64 at_)) (y_iface rfl if134) ?_
  refine l_panic (t := 134) (v := .int .i64 at_) rfl ?_
  refine w_then rfl ?_
  exact body_panic (le_keep0 keep_refl) ⟨rfl, rfl⟩
set_option maxRecDepth 20000 in
theorem c_at_big (ba bw n : Nat) (tc la at_ : Int) (m : Mem) (h_ba : m ba = some (.cells #[.slice (some ⟨bw, 0, none⟩) n n, .int .u64 tc, .int .i64 la] 106)) (d1 : decide (at_ < 0) = false) (d2 : decide (at_ ≥ ((n : Nat) : Int)) = true) : CallM Try.prog 77 #[.pointer (some ⟨ba, 0, none⟩), .int .i64 at_] m (Pan (.iface 134 (.int .i64 at_)) m) := by
  refine callM_body (args := [.pointer (some ⟨ba, 0, none⟩), .int .i64 at_]) Try.func77 rfl rfl rfl ?_
  refine e_seq ?_
  refine e_reg rfl ?_
  refine l_y (v := .pointer none) (y_assign) ?_
  refine l_end ?_
  refine e_then ?_
  refine e_seq ?_
  refine e_seq ?_
  refine e_reg rfl ?_
  refine l_y (v := .pointer (some ⟨ba, 0, none⟩)) (y_move) ?_
  refine l_y (v := .bool false) (y_eql (r := false) rfl rfl rfl rfl) ?_
  refine l_y (v := .bool false) (y_move) ?_
  refine g_y (v := .int .i64 at_) (b := false) rfl rfl rfl rfl (y_move) ?_
  refine g_y (v := .bool (decide (at_ < 0))) (b := false) rfl rfl rfl rfl (y_int (p := at_) (q := 0) rfl rfl rfl) ?_
  refine l_y (v := .bool (decide (at_ < 0))) (y_pickF (t := false) rfl rfl rfl) ?_
  refine l_y (v := .bool (decide (at_ < 0))) (y_move) ?_
  refine g_y (v := .int .i64 at_) (b := decide (at_ < 0)) rfl rfl rfl d1 (y_move) ?_
  refine g_y (v := .pointer (some ⟨ba, 0, none⟩)) (b := decide (at_ < 0)) rfl rfl rfl d1 (y_move) ?_
  refine g_y (v := .pointer (some ⟨ba, 0, none⟩)) (b := decide (at_ < 0)) rfl rfl rfl d1 (y_nilCheck rfl) ?_
  refine g_y (v := .pointer (some ⟨ba, 0, none⟩)) (b := decide (at_ < 0)) rfl rfl rfl d1 (y_fieldB rfl Try.underlying106 rfl sz47 rfl) ?_
  refine g_y (v := .slice (some ⟨bw, 0, none⟩) n n) (b := decide (at_ < 0)) rfl rfl rfl d1 (y_loadB rfl ag47 h_ba rfl) ?_
  refine g_y (v := .int .i64 ((n : Nat) : Int)) (b := decide (at_ < 0)) rfl rfl rfl d1 (y_len (b := (some ⟨bw, 0, none⟩)) (n := n) (c := n) rfl rfl el47) ?_
  refine g_y (v := .bool (decide (at_ ≥ ((n : Nat) : Int)))) (b := decide (at_ < 0)) rfl rfl rfl d1 (y_int (p := at_) (q := ((n : Nat) : Int)) rfl rfl rfl) ?_
  refine l_y (v := .bool (decide (at_ ≥ ((n : Nat) : Int)))) (y_pickF (t := decide (at_ < 0)) rfl d1 rfl) ?_
  refine l_end ?_
  refine e_then ?_
  refine e_ifT (t := decide (at_ ≥ ((n : Nat) : Int))) rfl d2 ?_
  refine e_reg rfl ?_
  refine l_y (v := .int .i64 at_) (y_move) ?_
  refine l_y (v := .iface 134 (.int .i64 at_)) (y_iface rfl if134) ?_
  refine l_panic (t := 134) (v := .int .i64 at_) rfl ?_
  refine w_then rfl ?_
  exact body_panic (le_keep0 keep_refl) ⟨rfl, rfl⟩
set_option maxRecDepth 20000 in
theorem c_upd1n (b0 : Nat) (x : Int) (m : Mem) (h_b0 : m b0 = some (.cells #[.int .u64 x] 31)) : DeferM Try.prog 76 #[.pointer (some ⟨b0, 0, none⟩)] m none true (fun m1 => m1 = m) := by
  refine deferM_recover (args := [.pointer (some ⟨b0, 0, none⟩)]) Try.func76 rfl rfl rfl rfl rfl rfl rfl ?_
  refine l_y (v := .nilIface) (y_assign) ?_
  refine l_end ?_
  refine e_then ?_
  refine e_seq ?_
  refine e_reg rfl ?_
  refine l_y (v := .nilIface) (y_move) ?_
  refine l_y (v := .bool false) (y_neq (r := true) rfl rfl rfl rfl) ?_
  refine l_end ?_
  refine e_then ?_
  refine e_ifF (t := false) rfl rfl ?_
  refine e_skip ?_
  exact bodyV_end (l := []) resVals_nil (le_keep0 keep_refl) rfl
set_option maxRecDepth 20000 in
theorem c_upd1s (b0 : Nat) (x at_ : Int) (m : Mem) (h_b0 : m b0 = some (.cells #[.int .u64 x] 31)) : DeferM Try.prog 76 #[.pointer (some ⟨b0, 0, none⟩)] m (some (.iface 134 (.int .i64 at_))) true (fun m1 => m1 = (m.set b0 (.cells #[.int .u64 0] 31))) := by
  refine deferM_recover (args := [.pointer (some ⟨b0, 0, none⟩)]) Try.func76 rfl rfl rfl rfl rfl rfl rfl ?_
  refine l_y (v := .iface 134 (.int .i64 at_)) (y_assign) ?_
  refine l_end ?_
  refine e_then ?_
  refine e_seq ?_
  refine e_reg rfl ?_
  refine l_y (v := .iface 134 (.int .i64 at_)) (y_move) ?_
  refine l_y (v := .bool true) (y_neq (r := false) rfl rfl rfl rfl) ?_
  refine l_end ?_
  refine e_then ?_
  refine e_ifT (t := true) rfl rfl ?_
  refine e_seq ?_
  refine e_seq ?_
  refine e_reg rfl ?_
  refine l_y (v := .iface 134 (.int .i64 at_)) (y_move) ?_
  refine l_y (v := .tuple #[.int .i64 at_, .bool true]) (y_assertT (v := .int .i64 at_) rfl if134) ?_
  refine l_y (v := .tuple #[.int .i64 at_, .bool true]) (y_move) ?_
  refine l_y (v := .int .i64 at_) (y_extract (vs := #[.int .i64 at_, .bool true]) rfl rfl) ?_
  refine l_y (v := .bool true) (y_extract (vs := #[.int .i64 at_, .bool true]) rfl rfl) ?_
  refine l_y (v := .int .i64 at_) (y_assign) ?_
  refine l_y (v := .bool true) (y_assign) ?_
  refine l_end ?_
  refine e_then ?_
  refine e_seq ?_
  refine e_reg rfl ?_
  refine l_y (v := .bool true) (y_move) ?_
  refine l_y (v := .bool false) (y_not (t := true) rfl) ?_
  refine l_end ?_
  refine e_then ?_
  refine e_ifF (t := false) rfl rfl ?_
  refine e_skip ?_
  refine e_then ?_
  refine e_reg rfl ?_
  refine l_d (m' := _) (d_storeB (v := .int .u64 0) (c' := #[.int .u64 0]) rfl rfl sz31 h_b0 rfl rfl (Nat.le_of_ble_eq_true rfl) rfl) ?_
  refine l_end ?_
  exact bodyV_end (l := []) resVals_nil (le_keep1 (keep_root keep_refl (by simp)) (show _ = some (Obj.cells #[.int .u64 0] 31 (0, 0)) from (Mem.hit _ b0 _))) rfl
set_option maxRecDepth 20000 in
theorem c_Update (ba bw j n : Nat) (tc la : Int) (W : Array Value) (u v : Int) (fid : FuncId) (fs cs : List Value) (m : Mem) (h_ba : m ba = some (.cells #[.slice (some ⟨bw, 0, none⟩) n n, .int .u64 tc, .int .i64 la] 106)) (h_bw : m bw = some (.cells (W) 31)) (n_ba_bw : ba ≠ bw) (hj : j < n) (hu : W[j]? = some (.int .u64 u)) (hbd : bodied Try.prog fid = true) (hf : ∀ m1, Keep [ba] m m1 → CallM Try.prog fid (fs ++ [(.int .u64 u : Value)] ++ cs).toArray m1 (Ret (.int .u64 v) m1)) : CallM Try.prog 50 #[.pointer (some ⟨ba, 0, none⟩), .int .i64 ((j : Nat) : Int), .func (.func fid) fs.toArray cs.toArray] m (Ret (.int .u64 u) ((m.set ba (.cells #[.slice (some ⟨bw, 0, none⟩) n n, .int .u64 (IntKind.u64.wrap (tc + 1)), .int .i64 ((j : Nat) : Int)] 106)).set bw (.cells ((W).setIfInBounds j (.int .u64 v : Value)) 31))) := by
  have hju : j + 1 ≤ W.size := (Array.getElem?_eq_some_iff.1 hu).1
  refine callM_bodyD (args := [.pointer (some ⟨ba, 0, none⟩), .int .i64 ((j : Nat) : Int), .func (.func fid) fs.toArray cs.toArray]) Try.func50 rfl rfl rfl ?_
  refine e_seq ?_
  refine e_reg rfl ?_
  refine l_n (v := fun b => .pointer (some ⟨b, 0, none⟩)) (x := .cells #[.int .u64 0] 31) (n_alloc zr31) (fun b1 hb1 => ?_)
  have nb1_ba := (Mem.ne_none h_ba hb1).symm
  have nb1_bw := (Mem.ne_none h_bw hb1).symm
  refine l_end ?_
  refine e_then ?_
  refine e_seq ?_
  refine e_seq ?_
  refine e_reg rfl ?_
  refine l_y (v := .func (.func fid) fs.toArray cs.toArray) (y_move) ?_
  refine l_y (v := .bool false) (y_eql (r := false) rfl rfl rfl rfl) ?_
  refine l_end ?_
  refine e_then ?_
  refine e_ifF (t := false) rfl rfl ?_
  refine e_skip ?_
  refine e_then ?_
  refine e_seq ?_
  refine e_reg rfl ?_
  refine l_y (v := .func (.func 76) #[] #[.pointer (some ⟨b1, 0, none⟩)]) (y_makeFunc (l := []) (k := [.pointer (some ⟨b1, 0, none⟩)]) rfl rfl) ?_
  refine l_defer (d := ⟨.fn (.func 76) #[.pointer (some ⟨b1, 0, none⟩)], #[]⟩) (resolve_fn (first := []) (cap := [.pointer (some ⟨b1, 0, none⟩)]) (l := []) rfl rfl) ?_
  refine l_end ?_
  refine e_then ?_
  refine e_seq ?_
  refine e_reg rfl ?_
  refine l_y (v := .pointer (some ⟨ba, 0, none⟩)) (y_move) ?_
  refine l_y (v := .int .i64 ((j : Nat) : Int)) (y_move) ?_
  refine l_cr (v := .pointer (some ⟨bw, j, none⟩)) (m' := _) (e_call bd77 rfl (l := [.pointer (some ⟨ba, 0, none⟩), .int .i64 ((j : Nat) : Int)]) rfl) (c_at ba bw j n tc la _ (show _ = some (Obj.cells #[.slice (some ⟨bw, 0, none⟩) n n, .int .u64 tc, .int .i64 la] 106 (0, 0)) from (Mem.miss nb1_ba.symm h_ba)) hj) ?_
  refine l_y (v := .pointer (some ⟨bw, j, none⟩)) (y_assign) ?_
  refine l_end ?_
  refine e_then ?_
  refine e_seq ?_
  refine e_reg rfl ?_
  refine l_y (v := .pointer (some ⟨bw, j, none⟩)) (y_move) ?_
  refine l_y (v := .pointer (some ⟨bw, j, none⟩)) (y_nilCheck rfl) ?_
  refine l_y (v := .int .u64 u) (y_loadB rfl ag31 (show _ = some (Obj.cells (W) 31 (0, 0)) from (Mem.miss n_ba_bw.symm (Mem.miss nb1_bw.symm h_bw))) hu) ?_
  refine l_d (m' := _) (d_storeB (v := .int .u64 u) (c' := #[.int .u64 u]) rfl rfl sz31 (show _ = some (Obj.cells #[.int .u64 0] 31 (0, 0)) from (Mem.miss nb1_ba (Mem.hit _ b1 _))) rfl rfl (Nat.le_of_ble_eq_true rfl) rfl) ?_
  refine l_end ?_
  refine e_then ?_
  refine e_seq ?_
  refine e_reg rfl ?_
  refine l_y (v := .pointer (some ⟨bw, j, none⟩)) (y_move) ?_
  refine l_y (v := .func (.func fid) fs.toArray cs.toArray) (y_move) ?_
  refine l_y (v := .int .u64 u) (y_loadB rfl ag31 (show _ = some (Obj.cells #[.int .u64 u] 31 (0, 0)) from (Mem.hit _ b1 _)) rfl) ?_
  refine l_cr (v := .int .u64 v) (m' := _) (e_callv (first := fs) (captured := cs) rfl hbd (l := [.int .u64 u]) rfl) (hf _ (keep_new (keep_root (keep_new keep_refl hb1) (by simp)) hb1)) ?_
  refine l_y (v := .pointer (some ⟨bw, j, none⟩)) (y_nilCheck rfl) ?_
  refine l_d (m' := _) (d_storeB (v := .int .u64 v) (c' := (W).setIfInBounds j (.int .u64 v : Value)) rfl rfl sz31 (show _ = some (Obj.cells (W) 31 (0, 0)) from (Mem.miss nb1_bw.symm (Mem.miss n_ba_bw.symm (Mem.miss nb1_bw.symm h_bw)))) rfl rfl hju rfl) ?_
  refine l_end ?_
  refine e_then ?_
  refine e_seq ?_
  refine e_reg rfl ?_
  refine l_y (v := .int .u64 u) (y_loadB rfl ag31 (show _ = some (Obj.cells #[.int .u64 u] 31 (0, 0)) from (Mem.miss nb1_bw (Mem.hit _ b1 _))) rfl) ?_
  refine l_d (m' := _) (d_storeB (v := .int .u64 u) (c' := #[.int .u64 u]) rfl rfl sz31 (show _ = some (Obj.cells #[.int .u64 u] 31 (0, 0)) from (Mem.miss nb1_bw (Mem.hit _ b1 _))) rfl rfl (Nat.le_of_ble_eq_true rfl) rfl) ?_
  refine l_end ?_
  refine e_then ?_
  refine e_ret ?_
  refine bodyD_ret (K := fun m1 => m1 = _) (cap := [.pointer (some ⟨b1, 0, none⟩)]) (args := []) rfl bd76 (c_upd1n b1 u _ (show _ = some (Obj.cells #[.int .u64 u] 31 (0, 0)) from (Mem.hit _ b1 _))) (fun m1 e => ?_)
  subst e
  exact ⟨[.int .u64 u], _, (resVals_cons (resVal_cell rfl ag31 (show _ = some (Obj.cells #[.int .u64 u] 31 (0, 0)) from (Mem.hit _ b1 _)) rfl) resVals_nil), (le_keep2 (keep_new (keep_root (keep_new (keep_root (keep_new keep_refl hb1) (by simp)) hb1) (by simp)) hb1) (show _ = some (Obj.cells #[.slice (some ⟨bw, 0, none⟩) n n, .int .u64 (IntKind.u64.wrap (tc + 1)), .int .i64 ((j : Nat) : Int)] 106 (0, 0)) from (Mem.miss nb1_ba.symm (Mem.miss n_ba_bw (Mem.miss nb1_ba.symm (Mem.hit _ ba _))))) (show _ = some (Obj.cells ((W).setIfInBounds j (.int .u64 v : Value)) 31 (0, 0)) from (Mem.miss nb1_bw.symm (Mem.hit _ bw _)))), rfl, rfl⟩
set_option maxRecDepth 20000 in
theorem c_Update_neg (ba bw n : Nat) (tc la at_ : Int) (fid : FuncId) (fs cs : List Value) (m : Mem) (h_ba : m ba = some (.cells #[.slice (some ⟨bw, 0, none⟩) n n, .int .u64 tc, .int .i64 la] 106)) (d1 : decide (at_ < 0) = true) : CallM Try.prog 50 #[.pointer (some ⟨ba, 0, none⟩), .int .i64 at_, .func (.func fid) fs.toArray cs.toArray] m (Ret (.int .u64 0) m) := by
  refine callM_bodyD (args := [.pointer (some ⟨ba, 0, none⟩), .int .i64 at_, .func (.func fid) fs.toArray cs.toArray]) Try.func50 rfl rfl rfl ?_
  refine e_seq ?_
  refine e_reg rfl ?_
  refine l_n (v := fun b => .pointer (some ⟨b, 0, none⟩)) (x := .cells #[.int .u64 0] 31) (n_alloc zr31) (fun b1 hb1 => ?_)
  have nb1_ba := (Mem.ne_none h_ba hb1).symm
  refine l_end ?_
  refine e_then ?_
  refine e_seq ?_
  refine e_seq ?_
  refine e_reg rfl ?_
  refine l_y (v := .func (.func fid) fs.toArray cs.toArray) (y_move) ?_
  refine l_y (v := .bool false) (y_eql (r := false) rfl rfl rfl rfl) ?_
  refine l_end ?_
  refine e_then ?_
  refine e_ifF (t := false) rfl rfl ?_
  refine e_skip ?_
  refine e_then ?_
  refine e_seq ?_
  refine e_reg rfl ?_
  refine l_y (v := .func (.func 76) #[] #[.pointer (some ⟨b1, 0, none⟩)]) (y_makeFunc (l := []) (k := [.pointer (some ⟨b1, 0, none⟩)]) rfl rfl) ?_
  refine l_defer (d := ⟨.fn (.func 76) #[.pointer (some ⟨b1, 0, none⟩)], #[]⟩) (resolve_fn (first := []) (cap := [.pointer (some ⟨b1, 0, none⟩)]) (l := []) rfl rfl) ?_
  refine l_end ?_
  refine e_then ?_
  refine e_seq ?_
  refine e_reg rfl ?_
  refine l_y (v := .pointer (some ⟨ba, 0, none⟩)) (y_move) ?_
  refine l_y (v := .int .i64 at_) (y_move) ?_
  refine l_cp (v := .iface 134 (.int .i64 at_)) (m' := _) (e_call bd77 rfl (l := [.pointer (some ⟨ba, 0, none⟩), .int .i64 at_]) rfl) (c_at_neg ba bw n tc la at_ _ (show _ = some (Obj.cells #[.slice (some ⟨bw, 0, none⟩) n n, .int .u64 tc, .int .i64 la] 106 (0, 0)) from (Mem.miss nb1_ba.symm h_ba)) d1) ?_
  refine w_then rfl ?_
  refine bodyD_panic (K := fun m1 => m1 = _) (cap := [.pointer (some ⟨b1, 0, none⟩)]) (args := []) rfl bd76 (c_upd1s b1 0 at_ _ (show _ = some (Obj.cells #[.int .u64 0] 31 (0, 0)) from (Mem.hit _ b1 _))) (fun m1 e => ?_)
  subst e
  exact ⟨[.int .u64 0], _, (resVals_cons (resVal_cell rfl ag31 (show _ = some (Obj.cells #[.int .u64 0] 31 (0, 0)) from (Mem.hit _ b1 _)) rfl) resVals_nil), (le_keep0 (keep_new (keep_new keep_refl hb1) hb1)), rfl, rfl⟩
set_option maxRecDepth 20000 in
theorem c_Update_big (ba bw n : Nat) (tc la at_ : Int) (fid : FuncId) (fs cs : List Value) (m : Mem) (h_ba : m ba = some (.cells #[.slice (some ⟨bw, 0, none⟩) n n, .int .u64 tc, .int .i64 la] 106)) (d1 : decide (at_ < 0) = false) (d2 : decide (at_ ≥ ((n : Nat) : Int)) = true) : CallM Try.prog 50 #[.pointer (some ⟨ba, 0, none⟩), .int .i64 at_, .func (.func fid) fs.toArray cs.toArray] m (Ret (.int .u64 0) m) := by
  refine callM_bodyD (args := [.pointer (some ⟨ba, 0, none⟩), .int .i64 at_, .func (.func fid) fs.toArray cs.toArray]) Try.func50 rfl rfl rfl ?_
  refine e_seq ?_
  refine e_reg rfl ?_
  refine l_n (v := fun b => .pointer (some ⟨b, 0, none⟩)) (x := .cells #[.int .u64 0] 31) (n_alloc zr31) (fun b1 hb1 => ?_)
  have nb1_ba := (Mem.ne_none h_ba hb1).symm
  refine l_end ?_
  refine e_then ?_
  refine e_seq ?_
  refine e_seq ?_
  refine e_reg rfl ?_
  refine l_y (v := .func (.func fid) fs.toArray cs.toArray) (y_move) ?_
  refine l_y (v := .bool false) (y_eql (r := false) rfl rfl rfl rfl) ?_
  refine l_end ?_
  refine e_then ?_
  refine e_ifF (t := false) rfl rfl ?_
  refine e_skip ?_
  refine e_then ?_
  refine e_seq ?_
  refine e_reg rfl ?_
  refine l_y (v := .func (.func 76) #[] #[.pointer (some ⟨b1, 0, none⟩)]) (y_makeFunc (l := []) (k := [.pointer (some ⟨b1, 0, none⟩)]) rfl rfl) ?_
  refine l_defer (d := ⟨.fn (.func 76) #[.pointer (some ⟨b1, 0, none⟩)], #[]⟩) (resolve_fn (first := []) (cap := [.pointer (some ⟨b1, 0, none⟩)]) (l := []) rfl rfl) ?_
  refine l_end ?_
  refine e_then ?_
  refine e_seq ?_
  refine e_reg rfl ?_
  refine l_y (v := .pointer (some ⟨ba, 0, none⟩)) (y_move) ?_
  refine l_y (v := .int .i64 at_) (y_move) ?_
  refine l_cp (v := .iface 134 (.int .i64 at_)) (m' := _) (e_call bd77 rfl (l := [.pointer (some ⟨ba, 0, none⟩), .int .i64 at_]) rfl) (c_at_big ba bw n tc la at_ _ (show _ = some (Obj.cells #[.slice (some ⟨bw, 0, none⟩) n n, .int .u64 tc, .int .i64 la] 106 (0, 0)) from (Mem.miss nb1_ba.symm h_ba)) d1 d2) ?_
  refine w_then rfl ?_
  refine bodyD_panic (K := fun m1 => m1 = _) (cap := [.pointer (some ⟨b1, 0, none⟩)]) (args := []) rfl bd76 (c_upd1s b1 0 at_ _ (show _ = some (Obj.cells #[.int .u64 0] 31 (0, 0)) from (Mem.hit _ b1 _))) (fun m1 e => ?_)
  subst e
  exact ⟨[.int .u64 0], _, (resVals_cons (resVal_cell rfl ag31 (show _ = some (Obj.cells #[.int .u64 0] 31 (0, 0)) from (Mem.hit _ b1 _)) rfl) resVals_nil), (le_keep0 (keep_new (keep_new keep_refl hb1) hb1)), rfl, rfl⟩
/-- Words as an arena's memory has them. -/
def wordsV (ws : List Int) : Array Value := (ws.map (Value.int .u64)).toArray
/-- Is there such a place? -/
def inW (ws : List Int) (at_ : Int) : Prop := 0 ≤ at_ ∧ at_ < ws.length
instance (ws : List Int) (at_ : Int) : Decidable (inW ws at_) := by unfold inW; infer_instance
def rdW (ws : List Int) (at_ : Int) : Int := if inW ws at_ then ws.getD at_.toNat 0 else 0
def upW (ws : List Int) (at_ : Int) (f : Int → Int) : List Int := if inW ws at_ then ws.set at_.toNat (f (rdW ws at_)) else ws
def tcW (ws : List Int) (at_ tc : Int) : Int := if inW ws at_ then IntKind.u64.wrap (tc + 1) else tc
def laW (ws : List Int) (at_ la : Int) : Int := if inW ws at_ then at_ else la
theorem wordsV_get {ws : List Int} {j : Nat} (h : j < ws.length) : (wordsV ws)[j]? = some (.int .u64 (ws.getD j 0)) := by simp [wordsV, h]
theorem wordsV_set (ws : List Int) (j : Nat) (v : Int) : (wordsV ws).setIfInBounds j (.int .u64 v) = wordsV (ws.set j v) := by
  apply Array.ext'
  simp [wordsV, List.map_set]
theorem upW_length (ws : List Int) (at_ : Int) (f : Int → Int) : (upW ws at_ f).length = ws.length := by unfold upW; split <;> simp
/-- Update, over words. -/
theorem c_UpdateW (ba bw : Nat) (ws : List Int) (tc la at_ : Int) (fid : FuncId) (fs cs : List Value) (m : Mem) (h_ba : m ba = some (.cells #[.slice (some ⟨bw, 0, none⟩) ws.length ws.length, .int .u64 tc, .int .i64 la] 106)) (h_bw : m bw = some (.cells (wordsV ws) 31)) (n_ba_bw : ba ≠ bw)
    (hbd : bodied Try.prog fid = true) (f : Int → Int) (hf : ∀ m1, Keep [ba] m m1 → CallM Try.prog fid (fs ++ [(.int .u64 (rdW ws at_) : Value)] ++ cs).toArray m1 (Ret (.int .u64 (f (rdW ws at_))) m1)) :
    CallM Try.prog 50 #[.pointer (some ⟨ba, 0, none⟩), .int .i64 at_, .func (.func fid) fs.toArray cs.toArray] m (Ret (.int .u64 (rdW ws at_)) ((m.set ba (.cells #[.slice (some ⟨bw, 0, none⟩) ws.length ws.length, .int .u64 (tcW ws at_ tc), .int .i64 (laW ws at_ la)] 106)).set bw (.cells (wordsV (upW ws at_ f)) 31))) := by
  by_cases h : inW ws at_
  · obtain ⟨h0, h1⟩ := h
    have hin : inW ws at_ := ⟨h0, h1⟩
    obtain ⟨j, rfl⟩ := Int.eq_ofNat_of_zero_le h0
    have hj : j < ws.length := by omega
    have hr : rdW ws (j : Int) = ws.getD j 0 := by unfold rdW; rw [if_pos hin]; simp
    have := c_Update ba bw j ws.length tc la (wordsV ws) (rdW ws (j : Int)) (f (rdW ws (j : Int))) fid fs cs m h_ba h_bw n_ba_bw hj (by rw [hr]; exact wordsV_get hj) hbd hf
    rw [wordsV_set] at this
    unfold tcW laW upW
    simp only [if_pos hin, Int.toNat_natCast]
    exact this
  · have e1 : upW ws at_ f = ws := by unfold upW; rw [if_neg h]
    have e2 : rdW ws at_ = 0 := by unfold rdW; rw [if_neg h]
    have e3 : (m.set ba (.cells #[.slice (some ⟨bw, 0, none⟩) ws.length ws.length, .int .u64 (tcW ws at_ tc), .int .i64 (laW ws at_ la)] 106)).set bw (.cells (wordsV (upW ws at_ f)) 31) = m := by
      unfold tcW laW
      rw [if_neg h, if_neg h, e1, Mem.set_eq h_ba, Mem.set_eq h_bw]
    rw [e3, e2]
    by_cases hneg : at_ < 0
    · exact c_Update_neg ba bw ws.length tc la at_ fid fs cs m h_ba (by simpa using hneg)
    · exact c_Update_big ba bw ws.length tc la at_ fid fs cs m h_ba (by simpa using hneg) (by unfold inW at h; simp only [decide_eq_true_eq]; omega)
/-- .. by a function that leaves the word. -/
theorem c_UpdateS (ba bw : Nat) (ws : List Int) (tc la at_ : Int) (fid : FuncId) (fs cs : List Value) (m : Mem) (h_ba : m ba = some (.cells #[.slice (some ⟨bw, 0, none⟩) ws.length ws.length, .int .u64 tc, .int .i64 la] 106)) (h_bw : m bw = some (.cells (wordsV ws) 31)) (n_ba_bw : ba ≠ bw)
    (hbd : bodied Try.prog fid = true) (hf : ∀ m1, Keep [ba] m m1 → CallM Try.prog fid (fs ++ [(.int .u64 (rdW ws at_) : Value)] ++ cs).toArray m1 (Ret (.int .u64 (rdW ws at_)) m1)) :
    CallM Try.prog 50 #[.pointer (some ⟨ba, 0, none⟩), .int .i64 at_, .func (.func fid) fs.toArray cs.toArray] m (Ret (.int .u64 (rdW ws at_)) (m.set ba (.cells #[.slice (some ⟨bw, 0, none⟩) ws.length ws.length, .int .u64 (tcW ws at_ tc), .int .i64 (laW ws at_ la)] 106))) := by
  have := c_UpdateW ba bw ws tc la at_ fid fs cs m h_ba h_bw n_ba_bw hbd (fun x => x) hf
  have e1 : upW ws at_ (fun x => x) = ws := by
    unfold upW
    split
    · rename_i h
      have hj : at_.toNat < ws.length := by unfold inW at h; omega
      unfold rdW
      rw [if_pos h]
      simp [List.getD_eq_getElem?_getD, hj]
    · rfl
  rw [e1, Mem.set_eq (b := bw)] at this
  · exact this
  · rw [Mem.set_ne _ _ n_ba_bw.symm]; exact h_bw

def rd1_0 (x0 : Int) : Int := x0
set_option maxRecDepth 20000 in
theorem c_rd1 (x0 : Int) (m : Mem) : CallM Try.prog 51 #[.int .u64 x0] m (Ret (.int .u64 (rd1_0 x0)) m) := by
  refine callM_body (args := [.int .u64 x0]) Try.func51 rfl rfl rfl ?_
  refine e_seq ?_
  refine e_reg rfl ?_
  refine l_y (v := .int .u64 0) (y_assign) ?_
  refine l_end ?_
  refine e_then ?_
  refine e_seq ?_
  refine e_reg rfl ?_
  refine l_y (v := .int .u64 x0) (y_move) ?_
  refine l_y (v := .int .u64 x0) (y_assign) ?_
  refine l_end ?_
  refine e_then ?_
  refine e_ret ?_
  exact body_ret (l := [.int .u64 x0]) (resVals_cons (resVal_tmp rfl) resVals_nil) (Mem.le_refl _) ⟨by simp [oneOf, rd1_0], rfl⟩
set_option maxRecDepth 20000 in
theorem c_wr1 (b0 : Nat) (x v : Int) (m : Mem) (h_b0 : m b0 = some (.cells #[.int .u64 v] 31)) : CallM Try.prog 61 #[.int .u64 x, .pointer (some ⟨b0, 0, none⟩)] m (Ret (.int .u64 v) m) := by
  refine callM_body (args := [.int .u64 x, .pointer (some ⟨b0, 0, none⟩)]) Try.func61 rfl rfl rfl ?_
  refine e_seq ?_
  refine e_reg rfl ?_
  refine l_y (v := .int .u64 0) (y_assign) ?_
  refine l_end ?_
  refine e_then ?_
  refine e_seq ?_
  refine e_reg rfl ?_
  refine l_y (v := .int .u64 v) (y_loadB rfl ag31 h_b0 rfl) ?_
  refine l_y (v := .int .u64 v) (y_assign) ?_
  refine l_end ?_
  refine e_then ?_
  refine e_ret ?_
  exact body_ret (l := [.int .u64 v]) (resVals_cons (resVal_tmp rfl) resVals_nil) (le_keep0 keep_refl) ⟨rfl, rfl⟩
set_option maxRecDepth 20000 in
theorem c_Read (ba bw : Nat) (ws : List Int) (tc la at_ : Int) (m : Mem) (h_ba : m ba = some (.cells #[.slice (some ⟨bw, 0, none⟩) ws.length ws.length, .int .u64 tc, .int .i64 la] 106)) (h_bw : m bw = some (.cells (wordsV ws) 31)) (n_ba_bw : ba ≠ bw) : CallM Try.prog 19 #[.pointer (some ⟨ba, 0, none⟩), .int .i64 at_] m (Ret (.int .u64 (rdW ws at_)) (m.set ba (.cells #[.slice (some ⟨bw, 0, none⟩) ws.length ws.length, .int .u64 (tcW ws at_ tc), .int .i64 (laW ws at_ la)] 106))) := by
  refine callM_body (args := [.pointer (some ⟨ba, 0, none⟩), .int .i64 at_]) Try.func19 rfl rfl rfl ?_
  refine e_seq ?_
  refine e_reg rfl ?_
  refine l_y (v := .int .u64 0) (y_assign) ?_
  refine l_end ?_
  refine e_then ?_
  refine e_seq ?_
  refine e_reg rfl ?_
  refine l_y (v := .pointer (some ⟨ba, 0, none⟩)) (y_move) ?_
  refine l_y (v := .int .i64 at_) (y_move) ?_
  refine l_cr (v := .int .u64 (rdW ws at_)) (m' := _) (e_call bd50 rfl (l := [.pointer (some ⟨ba, 0, none⟩), .int .i64 at_, .func (.func 51) #[] #[]]) rfl) (c_UpdateS ba bw ws tc la at_ 51 [] [] _ h_ba h_bw n_ba_bw bd51 (fun m1 _ => c_rd1 _ m1)) ?_
  refine l_y (v := .int .u64 (rdW ws at_)) (y_assign) ?_
  refine l_end ?_
  refine e_then ?_
  refine e_ret ?_
  exact body_ret (l := [.int .u64 (rdW ws at_)]) (resVals_cons (resVal_tmp rfl) resVals_nil) (le_keep1 (keep_root keep_refl (by simp)) (show _ = some (Obj.cells #[.slice (some ⟨bw, 0, none⟩) ws.length ws.length, .int .u64 (tcW ws at_ tc), .int .i64 (laW ws at_ la)] 106 (0, 0)) from (Mem.hit _ ba _))) ⟨rfl, rfl⟩
set_option maxRecDepth 20000 in
theorem c_Write (ba bw : Nat) (ws : List Int) (tc la at_ : Int) (v : Int) (m : Mem) (h_ba : m ba = some (.cells #[.slice (some ⟨bw, 0, none⟩) ws.length ws.length, .int .u64 tc, .int .i64 la] 106)) (h_bw : m bw = some (.cells (wordsV ws) 31)) (n_ba_bw : ba ≠ bw) : CallM Try.prog 35 #[.pointer (some ⟨ba, 0, none⟩), .int .i64 at_, .int .u64 v] m (Ret (.tuple #[]) ((m.set ba (.cells #[.slice (some ⟨bw, 0, none⟩) ws.length ws.length, .int .u64 (tcW ws at_ tc), .int .i64 (laW ws at_ la)] 106)).set bw (.cells (wordsV (upW ws at_ (fun _ => v))) 31))) := by
  refine callM_body (args := [.pointer (some ⟨ba, 0, none⟩), .int .i64 at_, .int .u64 v]) Try.func35 rfl rfl rfl ?_
  refine e_seq ?_
  refine e_reg rfl ?_
  refine l_n (v := fun b => .pointer (some ⟨b, 0, none⟩)) (x := .cells #[.int .u64 v] 31) (n_box (v := .int .u64 v) rfl) (fun b1 hb1 => ?_)
  have nb1_ba := (Mem.ne_none h_ba hb1).symm
  have nb1_bw := (Mem.ne_none h_bw hb1).symm
  refine l_end ?_
  refine e_then ?_
  refine e_reg rfl ?_
  refine l_y (v := .pointer (some ⟨ba, 0, none⟩)) (y_move) ?_
  refine l_y (v := .int .i64 at_) (y_move) ?_
  refine l_y (v := .func (.func 61) #[] #[.pointer (some ⟨b1, 0, none⟩)]) (y_makeFunc (l := []) (k := [.pointer (some ⟨b1, 0, none⟩)]) rfl rfl) ?_
  refine l_cr (v := .int .u64 (rdW ws at_)) (m' := _) (e_call bd50 rfl (l := [.pointer (some ⟨ba, 0, none⟩), .int .i64 at_, .func (.func 61) #[] #[.pointer (some ⟨b1, 0, none⟩)]]) rfl) (c_UpdateW ba bw ws tc la at_ 61 [] [.pointer (some ⟨b1, 0, none⟩)] _ (show _ = some (Obj.cells #[.slice (some ⟨bw, 0, none⟩) ws.length ws.length, .int .u64 tc, .int .i64 la] 106 (0, 0)) from (Mem.miss nb1_ba.symm h_ba)) (show _ = some (Obj.cells (wordsV ws) 31 (0, 0)) from (Mem.miss nb1_bw.symm h_bw)) n_ba_bw bd61 (fun _ => v) (fun m1 h => c_wr1 b1 _ v m1 (h.at (by simp [nb1_ba]) (show _ = some (Obj.cells #[.int .u64 v] 31 (0, 0)) from (Mem.hit _ b1 _))))) ?_
  refine l_end ?_
  exact body_end (l := []) resVals_nil (le_keep2 (keep_root (keep_root (keep_new keep_refl hb1) (by simp)) (by simp)) (show _ = some (Obj.cells #[.slice (some ⟨bw, 0, none⟩) ws.length ws.length, .int .u64 (tcW ws at_ tc), .int .i64 (laW ws at_ la)] 106 (0, 0)) from (Mem.miss n_ba_bw (Mem.hit _ ba _))) (show _ = some (Obj.cells (wordsV (upW ws at_ (fun _ => v))) 31 (0, 0)) from (Mem.hit _ bw _))) ⟨rfl, rfl⟩
end Go.Proofs.Ytpgooljdodijlaa
