/-
  What is proved: what demesneref12.Step, great, (*Arena).Touched and (*Arena).All do (printed by a program). Conditions: those that each theorem names.
-/
import Derived.Test.YtpgooljdodijlaaCZN
namespace Go.Proofs.Ytpgooljdodijlaa
open Go Go.Sp Go.Conc Go.RowKit
attribute [local irreducible] Code.wps OpsS OpsL Oper.wps Sem.wpm CallM RunM
set_option linter.unusedSimpArgs false
set_option linter.unusedVariables false
def wordsL (ws : List Int) : List Value := ws.map (Value.int .u64)
theorem wordsV_L (ws : List Int) : wordsV ws = (wordsL ws ++ []).toArray := by simp [wordsV, wordsL]
theorem wl_get {ws : List Int} {j : Nat} (h : j < ws.length) : (wordsL ws)[j]? = some (.int .u64 (ws.getD j 0)) := by simp [wordsL, h]
theorem wl_splice {rest : List Value} {us : List Int} {j : Nat} {v : Int} (h : j < us.length) : splice (wordsL us ++ rest).toArray j (Value.int .u64 v).cells.toList = (wordsL (us.set j v) ++ rest).toArray := by
  show ((wordsL us ++ rest).toArray).setIfInBounds j (.int .u64 v) = _
  rw [app_set (by simpa [wordsL] using h)]
  simp [wordsL, List.map_set]
theorem wl_ne {ws : List Int} (h : 0 < ws.length) : wordsL ws ≠ [] := by cases ws <;> simp [wordsL] at h ⊢
/-- What a touch reads last, and what it leaves in the words. -/
def refL (x : Tch) (last : Int) (ws : List Int) : Int := if x.d = 1 then last else rdW ws x.a
def refW (x : Tch) (last : Int) (ws : List Int) : List Int := if x.d = 0 then ws else if x.d = 1 then upW ws x.a (fun _ => IntKind.u64.wrap (last + x.v)) else upW ws x.a (fun w => IntKind.u64.wrap (w + x.v))
/-- An append to nothing. -/
theorem apd {m m' : Mem} {e : TypeId} {k : Nat} {ln : List Value} {v : Value} (h : Appended m e 1 0 k none [] ln v m') (hne : ln ≠ []) : ∃ b c rest, v = .slice (some ⟨b, 0, none⟩) k c ∧ m' = m.set b (.cells (ln ++ rest).toArray e) ∧ (ln ++ rest).length = c ∧ k ≤ c ∧ m b = none := by
  rcases h with ⟨_, _, rfl, _⟩ | ⟨b, c, rest, rfl, rfl, h1, h2, h3⟩
  · exact absurd rfl hne
  · exact ⟨b, c, rest, by rw [Nat.zero_add], rfl, by simpa using h1, by omega, h3.resolve_left (by simp)⟩
theorem bd20 : bodied Try.prog 20 = true := by kernel_rfl
theorem bd22 : bodied Try.prog 22 = true := by kernel_rfl
theorem bd23 : bodied Try.prog 23 = true := by kernel_rfl
theorem bd24 : bodied Try.prog 24 = true := by kernel_rfl
theorem el37 : elemOfS Try.prog 37 = some 5 := by kernel_rfl
theorem el44 : elemOfS Try.prog 44 = some 49 := by kernel_rfl
theorem ag52 : aggOf Try.prog 52 = some true := by kernel_rfl
theorem sz52 : szOf Try.prog 52 = some 3 := by kernel_rfl
theorem zr52 : zeroOf Try.prog 52 = some (.agg #[.slice none 0 0, .int .i64 0, .int .u64 0]) := by kernel_rfl
set_option maxRecDepth 20000 in
set_option pp.maxSteps 1500 in
theorem c_refGo (po : Option Addr) (c d : Nat) (l : List Tch) (x : Tch) (last : Int) (ws : List Int) (bm cm : Nat) (restm : List Value) (m : Mem) (hx : l[d]? = some x) (hbig : l.length < 2 ^ 61) (hrow : RowT m.at_ po l) (hbm : m bm = some (.cells (wordsL ws ++ restm).toArray 31)) (hm1 : (wordsL ws ++ restm).length = cm * 1) (hm2 : ws.length ≤ cm) (hw0 : 0 < ws.length) (hw1 : ws.length < 1000) :
    CallM Try.prog 22 #[.agg #[.slice po l.length c, .int .i64 ((d : Nat) : Int), .int .u64 last], .slice (some ⟨bm, 0, none⟩) ws.length cm] m (fun e m' => ∃ b9 c9 rest9, m b9 = none ∧ ((wordsL (refW x last ws) ++ rest9).length = c9 * 1 ∧ ws.length ≤ c9) ∧ e = .returned (.tuple #[.agg #[.slice po l.length c, .int .i64 ((d + 1 : Nat) : Int), .int .u64 (refL x last ws)], .slice (some ⟨b9, 0, none⟩) ws.length c9, .bool true]) ∧ m' = m.set b9 (.cells (wordsL (refW x last ws) ++ rest9).toArray 31)) := by
  have hdl : d < l.length := (List.getElem?_eq_some_iff.1 hx).1
  have hdn : decide (((d : Nat) : Int) ≥ ((l.length : Nat) : Int)) = false := by simp; omega
  obtain ⟨br, o, cc, ec, zc, hpo, hbr, hcc⟩ : ∃ br o c e z, po = some ⟨br, o, none⟩ ∧ m.at_ br = some (.cells c e z) ∧ ∀ (j : Nat) (x : Tch), l[j]? = some x → c[o + j * 3]? = some (.int .u8 x.d) ∧ c[o + j * 3 + 1]? = some (.int .i64 x.a) ∧ c[o + j * 3 + 2]? = some (.int .u64 x.v) := by
    rcases hrow with h | h
    · subst h; simp at hdl
    · exact h
  obtain ⟨q0, q1, q2⟩ := hcc d x hx
  have hwrap : IntKind.i64.wrap (((d : Nat) : Int) + 1) = ((d + 1 : Nat) : Int) := wrap8 rfl (x := d + 1) (by omega)
  refine callM_body (args := [.agg #[.slice po l.length c, .int .i64 ((d : Nat) : Int), .int .u64 last], .slice (some ⟨bm, 0, none⟩) ws.length cm]) Try.func22 rfl rfl rfl ?_
  refine e_seq ?_
  refine e_reg rfl ?_
  refine l_n (v := fun b => .pointer (some ⟨b, 0, none⟩)) (x := .cells #[.slice po l.length c, .int .i64 ((d : Nat) : Int), .int .u64 last] 52) (n_box (v := .agg #[.slice po l.length c, .int .i64 ((d : Nat) : Int), .int .u64 last]) rfl) (fun b1 hb1 => ?_)
  have nb1_bm := (Mem.ne_none hbm hb1).symm
  have nb1_br := (Mem.ne_none hbr hb1).symm
  refine l_n (v := fun b => .pointer (some ⟨b, 0, none⟩)) (x := .cells #[.slice none 0 0, .int .i64 0, .int .u64 0] 52) (n_alloc zr52) (fun b2 hb2 => ?_)
  obtain ⟨nb2_b1, hb2⟩ := Mem.none_set hb2
  have nb2_bm := (Mem.ne_none hbm hb2).symm
  have nb2_br := (Mem.ne_none hbr hb2).symm
  refine l_y (v := .slice none 0 0) (y_assign) ?_
  refine l_y (v := .bool false) (y_assign) ?_
  refine l_end ?_
  refine e_then ?_
  refine e_seq ?_
  refine e_seq ?_
  refine e_reg rfl ?_
  refine l_y (v := .pointer (some ⟨b1, 1, none⟩)) (y_fieldB rfl Try.underlying52 rfl sz3 rfl) ?_
  refine l_y (v := .int .i64 ((d : Nat) : Int)) (y_loadB rfl ag3 (show _ = some (Obj.cells #[.slice po l.length c, .int .i64 ((d : Nat) : Int), .int .u64 last] 52 (0, 0)) from (Mem.miss nb2_b1.symm (Mem.hit _ b1 _))) rfl) ?_
  refine l_y (v := .pointer (some ⟨b1, 0, none⟩)) (y_fieldB rfl Try.underlying52 rfl sz49 rfl) ?_
  refine l_y (v := .slice po l.length c) (y_loadB rfl ag49 (show _ = some (Obj.cells #[.slice po l.length c, .int .i64 ((d : Nat) : Int), .int .u64 last] 52 (0, 0)) from (Mem.miss nb2_b1.symm (Mem.hit _ b1 _))) rfl) ?_
  refine l_y (v := .int .i64 ((l.length : Nat) : Int)) (y_len (b := po) (n := l.length) (c := c) rfl rfl el49) ?_
  refine l_y (v := .bool (decide (((d : Nat) : Int) ≥ ((l.length : Nat) : Int)))) (y_int (p := ((d : Nat) : Int)) (q := ((l.length : Nat) : Int)) rfl rfl rfl) ?_
  refine l_end ?_
  refine e_then ?_
  refine e_ifF (t := decide (((d : Nat) : Int) ≥ ((l.length : Nat) : Int))) rfl hdn ?_
  refine e_skip ?_
  refine e_then ?_
  refine e_seq ?_
  refine e_reg rfl ?_
  refine l_y (v := .pointer (some ⟨b1, 0, none⟩)) (y_fieldB rfl Try.underlying52 rfl sz49 rfl) ?_
  refine l_y (v := .slice po l.length c) (y_loadB rfl ag49 (show _ = some (Obj.cells #[.slice po l.length c, .int .i64 ((d : Nat) : Int), .int .u64 last] 52 (0, 0)) from (Mem.miss nb2_b1.symm (Mem.hit _ b1 _))) rfl) ?_
  refine l_y (v := .pointer (some ⟨b1, 1, none⟩)) (y_fieldB rfl Try.underlying52 rfl sz3 rfl) ?_
  refine l_y (v := .int .i64 ((d : Nat) : Int)) (y_loadB rfl ag3 (show _ = some (Obj.cells #[.slice po l.length c, .int .i64 ((d : Nat) : Int), .int .u64 last] 52 (0, 0)) from (Mem.miss nb2_b1.symm (Mem.hit _ b1 _))) rfl) ?_
  refine l_y (v := .pointer (some ⟨br, (o + d * 3), none⟩)) (y_indexB (o := o) (j := ((d : Nat) : Int)) (n := l.length) (c := c) (by rw [← hpo]; rfl) rfl el49 sz57 (Int.natCast_nonneg d) (by omega) (by simp)) ?_
  refine l_y (v := .agg #[.int .u8 x.d, .int .i64 x.a, .int .u64 x.v]) (y_loadNB (n := 3) (l := [.int .u8 x.d, .int .i64 x.a, .int .u64 x.v]) rfl ag57 sz57 (show _ = some (Obj.cells (cc) ec zc) from (Mem.miss nb2_br.symm (Mem.miss nb1_br.symm hbr))) (take3 q0 q1 q2) (by have := (Array.getElem?_eq_some_iff.1 q2).1; omega)) ?_
  refine l_n (v := fun b => .pointer (some ⟨b, 0, none⟩)) (x := .cells #[.int .u8 0, .int .i64 0, .int .u64 0] 57) (n_alloc zr57) (fun b3 hb3 => ?_)
  obtain ⟨nb3_b2, hb3⟩ := Mem.none_set hb3
  obtain ⟨nb3_b1, hb3⟩ := Mem.none_set hb3
  have nb3_bm := (Mem.ne_none hbm hb3).symm
  have nb3_br := (Mem.ne_none hbr hb3).symm
  refine l_d (m' := _) (d_storeB (v := .agg #[.int .u8 x.d, .int .i64 x.a, .int .u64 x.v]) (c' := #[.int .u8 x.d, .int .i64 x.a, .int .u64 x.v]) rfl rfl sz57 (show _ = some (Obj.cells #[.int .u8 0, .int .i64 0, .int .u64 0] 57 (0, 0)) from (Mem.hit _ b3 _)) rfl rfl (Nat.le_of_ble_eq_true rfl) rfl) ?_
  refine l_end ?_
  refine e_then ?_
  refine e_seq ?_
  refine e_reg rfl ?_
  refine l_y (v := .pointer (some ⟨b1, 1, none⟩)) (y_fieldB rfl Try.underlying52 rfl sz3 rfl) ?_
  refine l_y (v := .int .i64 ((d : Nat) : Int)) (y_loadB rfl ag3 (show _ = some (Obj.cells #[.slice po l.length c, .int .i64 ((d : Nat) : Int), .int .u64 last] 52 (0, 0)) from (Mem.miss nb3_b1.symm (Mem.miss nb3_b1.symm (Mem.miss nb2_b1.symm (Mem.hit _ b1 _))))) rfl) ?_
  refine l_y (v := .int .i64 ((d + 1 : Nat) : Int)) (y_int (p := ((d : Nat) : Int)) (q := 1) rfl rfl (by rw [← hwrap]; rfl)) ?_
  refine l_y (v := .pointer (some ⟨b1, 1, none⟩)) (y_fieldB rfl Try.underlying52 rfl sz3 rfl) ?_
  refine l_d (m' := _) (d_storeB (v := .int .i64 ((d + 1 : Nat) : Int)) (c' := #[.slice po l.length c, .int .i64 ((d + 1 : Nat) : Int), .int .u64 last]) rfl rfl sz3 (show _ = some (Obj.cells #[.slice po l.length c, .int .i64 ((d : Nat) : Int), .int .u64 last] 52 (0, 0)) from (Mem.miss nb3_b1.symm (Mem.miss nb3_b1.symm (Mem.miss nb2_b1.symm (Mem.hit _ b1 _))))) rfl rfl (Nat.le_of_ble_eq_true rfl) rfl) ?_
  refine l_end ?_
  refine e_then ?_
  refine e_seq ?_
  refine e_reg rfl ?_
  refine l_y (v := .pointer (some ⟨b3, 1, none⟩)) (y_fieldB rfl Try.underlying57 rfl sz3 rfl) ?_
  refine l_y (v := .int .i64 x.a) (y_loadB rfl ag3 (show _ = some (Obj.cells #[.int .u8 x.d, .int .i64 x.a, .int .u64 x.v] 57 (0, 0)) from (Mem.miss nb3_b1 (Mem.hit _ b3 _))) rfl) ?_
  refine l_y (v := .bool (decide (x.a ≥ 0))) (y_int (p := x.a) (q := 0) rfl rfl rfl) ?_
  refine l_y (v := .bool (decide (x.a ≥ 0))) (y_move) ?_
  rcases Bool.eq_false_or_eq_true (decide (x.a ≥ 0)) with c1 | c1
  · refine g_y (v := .pointer (some ⟨b3, 1, none⟩)) (b := decide (x.a ≥ 0)) rfl rfl rfl c1 (y_fieldB rfl Try.underlying57 rfl sz3 rfl) ?_
    refine g_y (v := .int .i64 x.a) (b := decide (x.a ≥ 0)) rfl rfl rfl c1 (y_loadB rfl ag3 (show _ = some (Obj.cells #[.int .u8 x.d, .int .i64 x.a, .int .u64 x.v] 57 (0, 0)) from (Mem.miss nb3_b1 (Mem.hit _ b3 _))) rfl) ?_
    refine g_y (v := .slice (some ⟨bm, 0, none⟩) ws.length cm) (b := decide (x.a ≥ 0)) rfl rfl rfl c1 (y_move) ?_
    refine g_y (v := .int .i64 ((ws.length : Nat) : Int)) (b := decide (x.a ≥ 0)) rfl rfl rfl c1 (y_len (b := (some ⟨bm, 0, none⟩)) (n := ws.length) (c := cm) rfl rfl el47) ?_
    refine g_y (v := .bool (decide (x.a < ((ws.length : Nat) : Int)))) (b := decide (x.a ≥ 0)) rfl rfl rfl c1 (y_int (p := x.a) (q := ((ws.length : Nat) : Int)) rfl rfl rfl) ?_
    refine l_y (v := .bool (decide (x.a < ((ws.length : Nat) : Int)))) (y_pickT (t := decide (x.a ≥ 0)) rfl c1 rfl) ?_
    refine l_y (v := .bool (decide (x.a < ((ws.length : Nat) : Int)))) (y_assign) ?_
    refine l_end ?_
    refine e_then ?_
    refine e_seq ?_
    refine e_reg rfl ?_
    refine l_y (v := .int .u64 0) (y_assign) ?_
    refine l_end ?_
    refine e_then ?_
    refine e_seq ?_
    refine e_seq ?_
    refine e_reg rfl ?_
    refine l_y (v := .bool (decide (x.a < ((ws.length : Nat) : Int)))) (y_move) ?_
    refine l_end ?_
    refine e_then ?_
    refine e_if (t := decide (x.a < ((ws.length : Nat) : Int))) rfl (fun c2 => ?_) (fun c2 => ?_)
    · refine e_reg rfl ?_
      refine l_y (v := .slice (some ⟨bm, 0, none⟩) ws.length cm) (y_move) ?_
      refine l_y (v := .pointer (some ⟨b3, 1, none⟩)) (y_fieldB rfl Try.underlying57 rfl sz3 rfl) ?_
      refine l_y (v := .int .i64 x.a) (y_loadB rfl ag3 (show _ = some (Obj.cells #[.int .u8 x.d, .int .i64 x.a, .int .u64 x.v] 57 (0, 0)) from (Mem.miss nb3_b1 (Mem.hit _ b3 _))) rfl) ?_
      have hge : 0 ≤ x.a := of_decide_eq_true c1
      have hlt : x.a < ((ws.length : Nat) : Int) := of_decide_eq_true c2
      refine l_y (v := .pointer (some ⟨bm, x.a.toNat, none⟩)) (y_indexB (o := 0) (j := x.a) (n := ws.length) (c := cm) rfl rfl el47 sz31 hge hlt (by omega)) ?_
      refine l_y (v := .int .u64 (ws.getD x.a.toNat 0)) (y_loadB rfl ag31 (show _ = some (Obj.cells ((wordsL ws ++ restm).toArray) 31 (0, 0)) from (Mem.miss nb1_bm.symm (Mem.miss nb3_bm.symm (Mem.miss nb3_bm.symm (Mem.miss nb2_bm.symm (Mem.miss nb1_bm.symm hbm)))))) (app_get (wl_get (by omega)))) ?_
      refine l_y (v := .int .u64 (ws.getD x.a.toNat 0)) (y_assign) ?_
      refine l_end ?_
      refine e_then ?_
      refine e_seq ?_
      refine e_reg rfl ?_
      refine l_y (v := .slice (some ⟨bm, 0, none⟩) ws.length cm) (y_move) ?_
      refine l_g (gives_append (sz := 1) (n := 0) (k := ws.length) (by_ := 8) (l := []) (ln := wordsL ws) (v := .slice none 0 0) (bo := none) rfl rfl rfl rfl el47 el47 sz31 by31 zr31 rfl (.inl ⟨rfl, rfl, rfl, rfl⟩) (SlB.read (.inr ⟨bm, cm, restm, rfl, rfl, (show _ = some (Obj.cells ((wordsL ws ++ restm).toArray) 31 (0, 0)) from (Mem.miss nb1_bm.symm (Mem.miss nb3_bm.symm (Mem.miss nb3_bm.symm (Mem.miss nb2_bm.symm (Mem.miss nb1_bm.symm hbm)))))), by simp [wordsL], hm1, hm2⟩)) (by simp [wordsL, Value.flat]) (by omega) ⟨by omega, by decide⟩) ?_
      intro v9 m9 happ
      obtain ⟨b9, c9, rest9, rfl, rfl, hl9, hc9, hb9⟩ := apd happ (wl_ne hw0)
      obtain ⟨nb9_b1, hb9⟩ := Mem.none_set hb9
      obtain ⟨nb9_b3, hb9⟩ := Mem.none_set hb9
      obtain ⟨_, hb9⟩ := Mem.none_set hb9
      obtain ⟨nb9_b2, hb9⟩ := Mem.none_set hb9
      obtain ⟨_, hb9⟩ := Mem.none_set hb9
      have nb9_bm := (Mem.ne_none hbm hb9).symm
      have nb9_br := (Mem.ne_none hbr hb9).symm
      refine l_y (v := .slice (some ⟨b9, 0, none⟩) ws.length c9) (y_assign) ?_
      refine l_end ?_
      refine e_then ?_
      refine e_seq ?_
      refine e_seq ?_
      refine e_reg rfl ?_
      refine l_y (v := .pointer (some ⟨b3, 0, none⟩)) (y_fieldB rfl Try.underlying57 rfl sz5 rfl) ?_
      refine l_y (v := .int .u8 x.d) (y_loadB rfl ag5 (show _ = some (Obj.cells #[.int .u8 x.d, .int .i64 x.a, .int .u64 x.v] 57 (0, 0)) from (Mem.miss nb9_b3.symm (Mem.miss nb3_b1 (Mem.hit _ b3 _)))) rfl) ?_
      refine l_end ?_
      refine e_then ?_
      refine e_block ?_
      refine e_seq ?_
      refine e_reg rfl ?_
      refine l_y (v := .bool (x.d == 0)) (y_int (p := x.d) (q := 0) rfl rfl rfl) ?_
      refine l_y (v := .bool (x.d == 0)) (y_assign) ?_
      refine l_end ?_
      refine e_then ?_
      refine e_if (t := x.d == 0) rfl (fun c3 => ?_) (fun c3 => ?_)
      · refine e_reg rfl ?_
        refine l_y (v := .int .u64 (ws.getD x.a.toNat 0)) (y_move) ?_
        refine l_y (v := .pointer (some ⟨b1, 2, none⟩)) (y_fieldB rfl Try.underlying52 rfl sz31 rfl) ?_
        refine l_d (m' := _) (d_storeB (v := .int .u64 (ws.getD x.a.toNat 0)) (c' := #[.slice po l.length c, .int .i64 ((d + 1 : Nat) : Int), .int .u64 (ws.getD x.a.toNat 0)]) rfl rfl sz31 (show _ = some (Obj.cells #[.slice po l.length c, .int .i64 ((d + 1 : Nat) : Int), .int .u64 last] 52 (0, 0)) from (Mem.miss nb9_b1.symm (Mem.hit _ b1 _))) rfl rfl (Nat.le_of_ble_eq_true rfl) rfl) ?_
        refine l_end ?_
        refine w_block rfl ?_
        refine e_then ?_
        refine e_seq ?_
        refine e_reg rfl ?_
        refine l_y (v := .agg #[.slice po l.length c, .int .i64 ((d + 1 : Nat) : Int), .int .u64 (ws.getD x.a.toNat 0)]) (y_loadNB (l := [.slice po l.length c, .int .i64 ((d + 1 : Nat) : Int), .int .u64 (ws.getD x.a.toNat 0)]) rfl ag52 sz52 (show _ = some (Obj.cells #[.slice po l.length c, .int .i64 ((d + 1 : Nat) : Int), .int .u64 (ws.getD x.a.toNat 0)] 52 (0, 0)) from (Mem.hit _ b1 _)) rfl (Nat.le_of_ble_eq_true rfl)) ?_
        refine l_y (v := .slice (some ⟨b9, 0, none⟩) ws.length c9) (y_move) ?_
        refine l_d (m' := _) (d_storeB (v := .agg #[.slice po l.length c, .int .i64 ((d + 1 : Nat) : Int), .int .u64 (ws.getD x.a.toNat 0)]) (c' := #[.slice po l.length c, .int .i64 ((d + 1 : Nat) : Int), .int .u64 (ws.getD x.a.toNat 0)]) rfl rfl sz52 (show _ = some (Obj.cells #[.slice none 0 0, .int .i64 0, .int .u64 0] 52 (0, 0)) from (Mem.miss nb2_b1 (Mem.miss nb9_b2.symm (Mem.miss nb2_b1 (Mem.miss nb3_b2.symm (Mem.miss nb3_b2.symm (Mem.hit _ b2 _))))))) rfl rfl (Nat.le_of_ble_eq_true rfl) rfl) ?_
        refine l_y (v := .slice (some ⟨b9, 0, none⟩) ws.length c9) (y_assign) ?_
        refine l_y (v := .bool true) (y_assign) ?_
        refine l_end ?_
        refine e_then ?_
        refine e_ret ?_
        have hin : inW ws x.a := ⟨of_decide_eq_true c1, of_decide_eq_true c2⟩
        have hd0 : x.d = 0 := eq_of_beq c3
        have eW : refW x last ws = ws := by simp [refW, upW, rdW, hin, hd0]
        have eL : refL x last ws = (ws.getD x.a.toNat 0) := by simp [refL, rdW, hin, hd0]
        refine body_ret (m' := m.set b9 (.cells ((wordsL (ws)) ++ rest9).toArray 31)) (l := [.agg #[.slice po l.length c, .int .i64 ((d + 1 : Nat) : Int), .int .u64 ((ws.getD x.a.toNat 0))], .slice (some ⟨b9, 0, none⟩) ws.length c9, .bool true]) (resVals_cons (resVal_cellN rfl ag52 sz52 (show _ = some (Obj.cells #[.slice po l.length c, .int .i64 ((d + 1 : Nat) : Int), .int .u64 (ws.getD x.a.toNat 0)] 52 (0, 0)) from (Mem.hit _ b2 _)) rfl rfl) (resVals_cons (resVal_tmp rfl) (resVals_cons (resVal_tmp rfl) resVals_nil))) ⟨rfl, fun b o hb => ?_⟩ ⟨b9, c9, rest9, hb9, ?_, ?_, ?_⟩
        · by_cases hne : b = b9
          · rw [hne, Mem.hit] at hb
            rw [hne, ← hb]
            exact (show _ = some (Obj.cells ((wordsL ws ++ rest9).toArray) 31 (0, 0)) from (Mem.miss nb9_b2 (Mem.miss nb9_b1 (Mem.hit _ b9 _))))
          · rw [Mem.set_ne _ _ hne] at hb
            have k_b1 : b ≠ b1 := Mem.ne_none hb hb1
            have k_b2 : b ≠ b2 := Mem.ne_none hb hb2
            have k_b3 : b ≠ b3 := Mem.ne_none hb hb3
            have k_b9 := hne
            exact (Mem.miss k_b2 (Mem.miss k_b1 (Mem.miss k_b9 (Mem.miss k_b1 (Mem.miss k_b3 (Mem.miss k_b3 (Mem.miss k_b2 (Mem.miss k_b1 hb))))))))
        · rw [eW]; exact ⟨by simp [← hl9, wordsL], hc9⟩
        · rw [eL]; rfl
        · rw [eW]
      · refine e_seq ?_
        refine e_reg rfl ?_
        refine l_y (v := .bool (x.d == 1)) (y_int (p := x.d) (q := 1) rfl rfl rfl) ?_
        refine l_y (v := .bool (x.d == 1)) (y_assign) ?_
        refine l_end ?_
        refine e_then ?_
        refine e_if (t := x.d == 1) rfl (fun c4 => ?_) (fun c4 => ?_)
        · refine e_seq ?_
          refine e_reg rfl ?_
          refine l_y (v := .bool (decide (x.a < ((ws.length : Nat) : Int)))) (y_move) ?_
          refine l_end ?_
          refine e_then ?_
          refine e_ifT (t := decide (x.a < ((ws.length : Nat) : Int))) rfl c2 ?_
          refine e_reg rfl ?_
          refine l_y (v := .slice (some ⟨b9, 0, none⟩) ws.length c9) (y_move) ?_
          refine l_y (v := .pointer (some ⟨b3, 1, none⟩)) (y_fieldB rfl Try.underlying57 rfl sz3 rfl) ?_
          refine l_y (v := .int .i64 x.a) (y_loadB rfl ag3 (show _ = some (Obj.cells #[.int .u8 x.d, .int .i64 x.a, .int .u64 x.v] 57 (0, 0)) from (Mem.miss nb9_b3.symm (Mem.miss nb3_b1 (Mem.hit _ b3 _)))) rfl) ?_
          refine l_y (v := .pointer (some ⟨b1, 2, none⟩)) (y_fieldB rfl Try.underlying52 rfl sz31 rfl) ?_
          refine l_y (v := .int .u64 last) (y_loadB rfl ag31 (show _ = some (Obj.cells #[.slice po l.length c, .int .i64 ((d + 1 : Nat) : Int), .int .u64 last] 52 (0, 0)) from (Mem.miss nb9_b1.symm (Mem.hit _ b1 _))) rfl) ?_
          refine l_y (v := .pointer (some ⟨b3, 2, none⟩)) (y_fieldB rfl Try.underlying57 rfl sz31 rfl) ?_
          refine l_y (v := .int .u64 x.v) (y_loadB rfl ag31 (show _ = some (Obj.cells #[.int .u8 x.d, .int .i64 x.a, .int .u64 x.v] 57 (0, 0)) from (Mem.miss nb9_b3.symm (Mem.miss nb3_b1 (Mem.hit _ b3 _)))) rfl) ?_
          refine l_y (v := .int .u64 (IntKind.u64.wrap (last + x.v))) (y_int (p := last) (q := x.v) rfl rfl rfl) ?_
          have hge : 0 ≤ x.a := of_decide_eq_true c1
          have hlt : x.a < ((ws.length : Nat) : Int) := of_decide_eq_true c2
          refine l_y (v := .pointer (some ⟨b9, x.a.toNat, none⟩)) (y_indexB (o := 0) (j := x.a) (n := ws.length) (c := c9) rfl rfl el47 sz31 hge hlt (by omega)) ?_
          refine l_d (m' := _) (d_storeB (v := .int .u64 (IntKind.u64.wrap (last + x.v))) (c' := (wordsL (ws.set x.a.toNat (IntKind.u64.wrap (last + x.v))) ++ rest9).toArray) rfl rfl sz31 (show _ = some (Obj.cells ((wordsL ws ++ rest9).toArray) 31 (0, 0)) from (Mem.hit _ b9 _)) rfl rfl (by simp [wordsL]; omega) (wl_splice (by omega))) ?_
          refine l_end ?_
          refine w_block rfl ?_
          refine e_then ?_
          refine e_seq ?_
          refine e_reg rfl ?_
          refine l_y (v := .agg #[.slice po l.length c, .int .i64 ((d + 1 : Nat) : Int), .int .u64 last]) (y_loadNB (l := [.slice po l.length c, .int .i64 ((d + 1 : Nat) : Int), .int .u64 last]) rfl ag52 sz52 (show _ = some (Obj.cells #[.slice po l.length c, .int .i64 ((d + 1 : Nat) : Int), .int .u64 last] 52 (0, 0)) from (Mem.miss nb9_b1.symm (Mem.miss nb9_b1.symm (Mem.hit _ b1 _)))) rfl (Nat.le_of_ble_eq_true rfl)) ?_
          refine l_y (v := .slice (some ⟨b9, 0, none⟩) ws.length c9) (y_move) ?_
          refine l_d (m' := _) (d_storeB (v := .agg #[.slice po l.length c, .int .i64 ((d + 1 : Nat) : Int), .int .u64 last]) (c' := #[.slice po l.length c, .int .i64 ((d + 1 : Nat) : Int), .int .u64 last]) rfl rfl sz52 (show _ = some (Obj.cells #[.slice none 0 0, .int .i64 0, .int .u64 0] 52 (0, 0)) from (Mem.miss nb9_b2.symm (Mem.miss nb9_b2.symm (Mem.miss nb2_b1 (Mem.miss nb3_b2.symm (Mem.miss nb3_b2.symm (Mem.hit _ b2 _))))))) rfl rfl (Nat.le_of_ble_eq_true rfl) rfl) ?_
          refine l_y (v := .slice (some ⟨b9, 0, none⟩) ws.length c9) (y_assign) ?_
          refine l_y (v := .bool true) (y_assign) ?_
          refine l_end ?_
          refine e_then ?_
          refine e_ret ?_
          have hin : inW ws x.a := ⟨of_decide_eq_true c1, of_decide_eq_true c2⟩
          have hd0 : ¬ x.d = 0 := fun h => by rw [h] at c3; simp at c3
          have hd1 : x.d = 1 := eq_of_beq c4
          have eW : refW x last ws = ws.set x.a.toNat (IntKind.u64.wrap (last + x.v)) := by simp [refW, upW, rdW, hin, hd0, hd1]
          have eL : refL x last ws = last := by simp [refL, rdW, hin, hd0, hd1]
          refine body_ret (m' := m.set b9 (.cells ((wordsL (ws.set x.a.toNat (IntKind.u64.wrap (last + x.v)))) ++ rest9).toArray 31)) (l := [.agg #[.slice po l.length c, .int .i64 ((d + 1 : Nat) : Int), .int .u64 (last)], .slice (some ⟨b9, 0, none⟩) ws.length c9, .bool true]) (resVals_cons (resVal_cellN rfl ag52 sz52 (show _ = some (Obj.cells #[.slice po l.length c, .int .i64 ((d + 1 : Nat) : Int), .int .u64 last] 52 (0, 0)) from (Mem.hit _ b2 _)) rfl rfl) (resVals_cons (resVal_tmp rfl) (resVals_cons (resVal_tmp rfl) resVals_nil))) ⟨rfl, fun b o hb => ?_⟩ ⟨b9, c9, rest9, hb9, ?_, ?_, ?_⟩
          · by_cases hne : b = b9
            · rw [hne, Mem.hit] at hb
              rw [hne, ← hb]
              exact (show _ = some (Obj.cells ((wordsL (ws.set x.a.toNat (IntKind.u64.wrap (last + x.v))) ++ rest9).toArray) 31 (0, 0)) from (Mem.miss nb9_b2 (Mem.hit _ b9 _)))
            · rw [Mem.set_ne _ _ hne] at hb
              have k_b1 : b ≠ b1 := Mem.ne_none hb hb1
              have k_b2 : b ≠ b2 := Mem.ne_none hb hb2
              have k_b3 : b ≠ b3 := Mem.ne_none hb hb3
              have k_b9 := hne
              exact (Mem.miss k_b2 (Mem.miss k_b9 (Mem.miss k_b9 (Mem.miss k_b1 (Mem.miss k_b3 (Mem.miss k_b3 (Mem.miss k_b2 (Mem.miss k_b1 hb))))))))
          · rw [eW]; exact ⟨by simp [← hl9, wordsL], hc9⟩
          · rw [eL]; rfl
          · rw [eW]
        · refine e_seq ?_
          refine e_seq ?_
          refine e_reg rfl ?_
          refine l_y (v := .bool (decide (x.a < ((ws.length : Nat) : Int)))) (y_move) ?_
          refine l_end ?_
          refine e_then ?_
          refine e_ifT (t := decide (x.a < ((ws.length : Nat) : Int))) rfl c2 ?_
          refine e_reg rfl ?_
          refine l_y (v := .slice (some ⟨b9, 0, none⟩) ws.length c9) (y_move) ?_
          refine l_y (v := .pointer (some ⟨b3, 1, none⟩)) (y_fieldB rfl Try.underlying57 rfl sz3 rfl) ?_
          refine l_y (v := .int .i64 x.a) (y_loadB rfl ag3 (show _ = some (Obj.cells #[.int .u8 x.d, .int .i64 x.a, .int .u64 x.v] 57 (0, 0)) from (Mem.miss nb9_b3.symm (Mem.miss nb3_b1 (Mem.hit _ b3 _)))) rfl) ?_
          refine l_y (v := .int .u64 (ws.getD x.a.toNat 0)) (y_move) ?_
          refine l_y (v := .pointer (some ⟨b3, 2, none⟩)) (y_fieldB rfl Try.underlying57 rfl sz31 rfl) ?_
          refine l_y (v := .int .u64 x.v) (y_loadB rfl ag31 (show _ = some (Obj.cells #[.int .u8 x.d, .int .i64 x.a, .int .u64 x.v] 57 (0, 0)) from (Mem.miss nb9_b3.symm (Mem.miss nb3_b1 (Mem.hit _ b3 _)))) rfl) ?_
          refine l_y (v := .int .u64 (IntKind.u64.wrap ((ws.getD x.a.toNat 0) + x.v))) (y_int (p := (ws.getD x.a.toNat 0)) (q := x.v) rfl rfl rfl) ?_
          have hge : 0 ≤ x.a := of_decide_eq_true c1
          have hlt : x.a < ((ws.length : Nat) : Int) := of_decide_eq_true c2
          refine l_y (v := .pointer (some ⟨b9, x.a.toNat, none⟩)) (y_indexB (o := 0) (j := x.a) (n := ws.length) (c := c9) rfl rfl el47 sz31 hge hlt (by omega)) ?_
          refine l_d (m' := _) (d_storeB (v := .int .u64 (IntKind.u64.wrap ((ws.getD x.a.toNat 0) + x.v))) (c' := (wordsL (ws.set x.a.toNat (IntKind.u64.wrap ((ws.getD x.a.toNat 0) + x.v))) ++ rest9).toArray) rfl rfl sz31 (show _ = some (Obj.cells ((wordsL ws ++ rest9).toArray) 31 (0, 0)) from (Mem.hit _ b9 _)) rfl rfl (by simp [wordsL]; omega) (wl_splice (by omega))) ?_
          refine l_end ?_
          refine e_then ?_
          refine e_reg rfl ?_
          refine l_y (v := .int .u64 (ws.getD x.a.toNat 0)) (y_move) ?_
          refine l_y (v := .pointer (some ⟨b1, 2, none⟩)) (y_fieldB rfl Try.underlying52 rfl sz31 rfl) ?_
          refine l_d (m' := _) (d_storeB (v := .int .u64 (ws.getD x.a.toNat 0)) (c' := #[.slice po l.length c, .int .i64 ((d + 1 : Nat) : Int), .int .u64 (ws.getD x.a.toNat 0)]) rfl rfl sz31 (show _ = some (Obj.cells #[.slice po l.length c, .int .i64 ((d + 1 : Nat) : Int), .int .u64 last] 52 (0, 0)) from (Mem.miss nb9_b1.symm (Mem.miss nb9_b1.symm (Mem.hit _ b1 _)))) rfl rfl (Nat.le_of_ble_eq_true rfl) rfl) ?_
          refine l_end ?_
          refine w_block rfl ?_
          refine e_then ?_
          refine e_seq ?_
          refine e_reg rfl ?_
          refine l_y (v := .agg #[.slice po l.length c, .int .i64 ((d + 1 : Nat) : Int), .int .u64 (ws.getD x.a.toNat 0)]) (y_loadNB (l := [.slice po l.length c, .int .i64 ((d + 1 : Nat) : Int), .int .u64 (ws.getD x.a.toNat 0)]) rfl ag52 sz52 (show _ = some (Obj.cells #[.slice po l.length c, .int .i64 ((d + 1 : Nat) : Int), .int .u64 (ws.getD x.a.toNat 0)] 52 (0, 0)) from (Mem.hit _ b1 _)) rfl (Nat.le_of_ble_eq_true rfl)) ?_
          refine l_y (v := .slice (some ⟨b9, 0, none⟩) ws.length c9) (y_move) ?_
          refine l_d (m' := _) (d_storeB (v := .agg #[.slice po l.length c, .int .i64 ((d + 1 : Nat) : Int), .int .u64 (ws.getD x.a.toNat 0)]) (c' := #[.slice po l.length c, .int .i64 ((d + 1 : Nat) : Int), .int .u64 (ws.getD x.a.toNat 0)]) rfl rfl sz52 (show _ = some (Obj.cells #[.slice none 0 0, .int .i64 0, .int .u64 0] 52 (0, 0)) from (Mem.miss nb2_b1 (Mem.miss nb9_b2.symm (Mem.miss nb9_b2.symm (Mem.miss nb2_b1 (Mem.miss nb3_b2.symm (Mem.miss nb3_b2.symm (Mem.hit _ b2 _)))))))) rfl rfl (Nat.le_of_ble_eq_true rfl) rfl) ?_
          refine l_y (v := .slice (some ⟨b9, 0, none⟩) ws.length c9) (y_assign) ?_
          refine l_y (v := .bool true) (y_assign) ?_
          refine l_end ?_
          refine e_then ?_
          refine e_ret ?_
          have hin : inW ws x.a := ⟨of_decide_eq_true c1, of_decide_eq_true c2⟩
          have hd0 : ¬ x.d = 0 := fun h => by rw [h] at c3; simp at c3
          have hd1 : ¬ x.d = 1 := fun h => by rw [h] at c4; simp at c4
          have eW : refW x last ws = ws.set x.a.toNat (IntKind.u64.wrap ((ws.getD x.a.toNat 0) + x.v)) := by simp [refW, upW, rdW, hin, hd0, hd1]
          have eL : refL x last ws = (ws.getD x.a.toNat 0) := by simp [refL, rdW, hin, hd0, hd1]
          refine body_ret (m' := m.set b9 (.cells ((wordsL (ws.set x.a.toNat (IntKind.u64.wrap ((ws.getD x.a.toNat 0) + x.v)))) ++ rest9).toArray 31)) (l := [.agg #[.slice po l.length c, .int .i64 ((d + 1 : Nat) : Int), .int .u64 ((ws.getD x.a.toNat 0))], .slice (some ⟨b9, 0, none⟩) ws.length c9, .bool true]) (resVals_cons (resVal_cellN rfl ag52 sz52 (show _ = some (Obj.cells #[.slice po l.length c, .int .i64 ((d + 1 : Nat) : Int), .int .u64 (ws.getD x.a.toNat 0)] 52 (0, 0)) from (Mem.hit _ b2 _)) rfl rfl) (resVals_cons (resVal_tmp rfl) (resVals_cons (resVal_tmp rfl) resVals_nil))) ⟨rfl, fun b o hb => ?_⟩ ⟨b9, c9, rest9, hb9, ?_, ?_, ?_⟩
          · by_cases hne : b = b9
            · rw [hne, Mem.hit] at hb
              rw [hne, ← hb]
              exact (show _ = some (Obj.cells ((wordsL (ws.set x.a.toNat (IntKind.u64.wrap ((ws.getD x.a.toNat 0) + x.v))) ++ rest9).toArray) 31 (0, 0)) from (Mem.miss nb9_b2 (Mem.miss nb9_b1 (Mem.hit _ b9 _))))
            · rw [Mem.set_ne _ _ hne] at hb
              have k_b1 : b ≠ b1 := Mem.ne_none hb hb1
              have k_b2 : b ≠ b2 := Mem.ne_none hb hb2
              have k_b3 : b ≠ b3 := Mem.ne_none hb hb3
              have k_b9 := hne
              exact (Mem.miss k_b2 (Mem.miss k_b1 (Mem.miss k_b9 (Mem.miss k_b9 (Mem.miss k_b1 (Mem.miss k_b3 (Mem.miss k_b3 (Mem.miss k_b2 (Mem.miss k_b1 hb)))))))))
          · rw [eW]; exact ⟨by simp [← hl9, wordsL], hc9⟩
          · rw [eL]; rfl
          · rw [eW]
    · refine e_skip ?_
      refine e_then ?_
      refine e_seq ?_
      refine e_reg rfl ?_
      refine l_y (v := .slice (some ⟨bm, 0, none⟩) ws.length cm) (y_move) ?_
      refine l_g (gives_append (sz := 1) (n := 0) (k := ws.length) (by_ := 8) (l := []) (ln := wordsL ws) (v := .slice none 0 0) (bo := none) rfl rfl rfl rfl el47 el47 sz31 by31 zr31 rfl (.inl ⟨rfl, rfl, rfl, rfl⟩) (SlB.read (.inr ⟨bm, cm, restm, rfl, rfl, (show _ = some (Obj.cells ((wordsL ws ++ restm).toArray) 31 (0, 0)) from (Mem.miss nb1_bm.symm (Mem.miss nb3_bm.symm (Mem.miss nb3_bm.symm (Mem.miss nb2_bm.symm (Mem.miss nb1_bm.symm hbm)))))), by simp [wordsL], hm1, hm2⟩)) (by simp [wordsL, Value.flat]) (by omega) ⟨by omega, by decide⟩) ?_
      intro v9 m9 happ
      obtain ⟨b9, c9, rest9, rfl, rfl, hl9, hc9, hb9⟩ := apd happ (wl_ne hw0)
      obtain ⟨nb9_b1, hb9⟩ := Mem.none_set hb9
      obtain ⟨nb9_b3, hb9⟩ := Mem.none_set hb9
      obtain ⟨_, hb9⟩ := Mem.none_set hb9
      obtain ⟨nb9_b2, hb9⟩ := Mem.none_set hb9
      obtain ⟨_, hb9⟩ := Mem.none_set hb9
      have nb9_bm := (Mem.ne_none hbm hb9).symm
      have nb9_br := (Mem.ne_none hbr hb9).symm
      refine l_y (v := .slice (some ⟨b9, 0, none⟩) ws.length c9) (y_assign) ?_
      refine l_end ?_
      refine e_then ?_
      refine e_seq ?_
      refine e_seq ?_
      refine e_reg rfl ?_
      refine l_y (v := .pointer (some ⟨b3, 0, none⟩)) (y_fieldB rfl Try.underlying57 rfl sz5 rfl) ?_
      refine l_y (v := .int .u8 x.d) (y_loadB rfl ag5 (show _ = some (Obj.cells #[.int .u8 x.d, .int .i64 x.a, .int .u64 x.v] 57 (0, 0)) from (Mem.miss nb9_b3.symm (Mem.miss nb3_b1 (Mem.hit _ b3 _)))) rfl) ?_
      refine l_end ?_
      refine e_then ?_
      refine e_block ?_
      refine e_seq ?_
      refine e_reg rfl ?_
      refine l_y (v := .bool (x.d == 0)) (y_int (p := x.d) (q := 0) rfl rfl rfl) ?_
      refine l_y (v := .bool (x.d == 0)) (y_assign) ?_
      refine l_end ?_
      refine e_then ?_
      refine e_if (t := x.d == 0) rfl (fun c3 => ?_) (fun c3 => ?_)
      · refine e_reg rfl ?_
        refine l_y (v := .int .u64 0) (y_move) ?_
        refine l_y (v := .pointer (some ⟨b1, 2, none⟩)) (y_fieldB rfl Try.underlying52 rfl sz31 rfl) ?_
        refine l_d (m' := _) (d_storeB (v := .int .u64 0) (c' := #[.slice po l.length c, .int .i64 ((d + 1 : Nat) : Int), .int .u64 0]) rfl rfl sz31 (show _ = some (Obj.cells #[.slice po l.length c, .int .i64 ((d + 1 : Nat) : Int), .int .u64 last] 52 (0, 0)) from (Mem.miss nb9_b1.symm (Mem.hit _ b1 _))) rfl rfl (Nat.le_of_ble_eq_true rfl) rfl) ?_
        refine l_end ?_
        refine w_block rfl ?_
        refine e_then ?_
        refine e_seq ?_
        refine e_reg rfl ?_
        refine l_y (v := .agg #[.slice po l.length c, .int .i64 ((d + 1 : Nat) : Int), .int .u64 0]) (y_loadNB (l := [.slice po l.length c, .int .i64 ((d + 1 : Nat) : Int), .int .u64 0]) rfl ag52 sz52 (show _ = some (Obj.cells #[.slice po l.length c, .int .i64 ((d + 1 : Nat) : Int), .int .u64 0] 52 (0, 0)) from (Mem.hit _ b1 _)) rfl (Nat.le_of_ble_eq_true rfl)) ?_
        refine l_y (v := .slice (some ⟨b9, 0, none⟩) ws.length c9) (y_move) ?_
        refine l_d (m' := _) (d_storeB (v := .agg #[.slice po l.length c, .int .i64 ((d + 1 : Nat) : Int), .int .u64 0]) (c' := #[.slice po l.length c, .int .i64 ((d + 1 : Nat) : Int), .int .u64 0]) rfl rfl sz52 (show _ = some (Obj.cells #[.slice none 0 0, .int .i64 0, .int .u64 0] 52 (0, 0)) from (Mem.miss nb2_b1 (Mem.miss nb9_b2.symm (Mem.miss nb2_b1 (Mem.miss nb3_b2.symm (Mem.miss nb3_b2.symm (Mem.hit _ b2 _))))))) rfl rfl (Nat.le_of_ble_eq_true rfl) rfl) ?_
        refine l_y (v := .slice (some ⟨b9, 0, none⟩) ws.length c9) (y_assign) ?_
        refine l_y (v := .bool true) (y_assign) ?_
        refine l_end ?_
        refine e_then ?_
        refine e_ret ?_
        have hin : ¬ inW ws x.a := fun h => absurd h.2 (of_decide_eq_false c2)
        have hd0 : x.d = 0 := eq_of_beq c3
        have eW : refW x last ws = ws := by simp [refW, upW, rdW, hin, hd0]
        have eL : refL x last ws = 0 := by simp [refL, rdW, hin, hd0]
        refine body_ret (m' := m.set b9 (.cells ((wordsL (ws)) ++ rest9).toArray 31)) (l := [.agg #[.slice po l.length c, .int .i64 ((d + 1 : Nat) : Int), .int .u64 (0)], .slice (some ⟨b9, 0, none⟩) ws.length c9, .bool true]) (resVals_cons (resVal_cellN rfl ag52 sz52 (show _ = some (Obj.cells #[.slice po l.length c, .int .i64 ((d + 1 : Nat) : Int), .int .u64 0] 52 (0, 0)) from (Mem.hit _ b2 _)) rfl rfl) (resVals_cons (resVal_tmp rfl) (resVals_cons (resVal_tmp rfl) resVals_nil))) ⟨rfl, fun b o hb => ?_⟩ ⟨b9, c9, rest9, hb9, ?_, ?_, ?_⟩
        · by_cases hne : b = b9
          · rw [hne, Mem.hit] at hb
            rw [hne, ← hb]
            exact (show _ = some (Obj.cells ((wordsL ws ++ rest9).toArray) 31 (0, 0)) from (Mem.miss nb9_b2 (Mem.miss nb9_b1 (Mem.hit _ b9 _))))
          · rw [Mem.set_ne _ _ hne] at hb
            have k_b1 : b ≠ b1 := Mem.ne_none hb hb1
            have k_b2 : b ≠ b2 := Mem.ne_none hb hb2
            have k_b3 : b ≠ b3 := Mem.ne_none hb hb3
            have k_b9 := hne
            exact (Mem.miss k_b2 (Mem.miss k_b1 (Mem.miss k_b9 (Mem.miss k_b1 (Mem.miss k_b3 (Mem.miss k_b3 (Mem.miss k_b2 (Mem.miss k_b1 hb))))))))
        · rw [eW]; exact ⟨by simp [← hl9, wordsL], hc9⟩
        · rw [eL]; rfl
        · rw [eW]
      · refine e_seq ?_
        refine e_reg rfl ?_
        refine l_y (v := .bool (x.d == 1)) (y_int (p := x.d) (q := 1) rfl rfl rfl) ?_
        refine l_y (v := .bool (x.d == 1)) (y_assign) ?_
        refine l_end ?_
        refine e_then ?_
        refine e_if (t := x.d == 1) rfl (fun c4 => ?_) (fun c4 => ?_)
        · refine e_seq ?_
          refine e_reg rfl ?_
          refine l_y (v := .bool (decide (x.a < ((ws.length : Nat) : Int)))) (y_move) ?_
          refine l_end ?_
          refine e_then ?_
          refine e_ifF (t := decide (x.a < ((ws.length : Nat) : Int))) rfl c2 ?_
          refine e_skip ?_
          refine w_block rfl ?_
          refine e_then ?_
          refine e_seq ?_
          refine e_reg rfl ?_
          refine l_y (v := .agg #[.slice po l.length c, .int .i64 ((d + 1 : Nat) : Int), .int .u64 last]) (y_loadNB (l := [.slice po l.length c, .int .i64 ((d + 1 : Nat) : Int), .int .u64 last]) rfl ag52 sz52 (show _ = some (Obj.cells #[.slice po l.length c, .int .i64 ((d + 1 : Nat) : Int), .int .u64 last] 52 (0, 0)) from (Mem.miss nb9_b1.symm (Mem.hit _ b1 _))) rfl (Nat.le_of_ble_eq_true rfl)) ?_
          refine l_y (v := .slice (some ⟨b9, 0, none⟩) ws.length c9) (y_move) ?_
          refine l_d (m' := _) (d_storeB (v := .agg #[.slice po l.length c, .int .i64 ((d + 1 : Nat) : Int), .int .u64 last]) (c' := #[.slice po l.length c, .int .i64 ((d + 1 : Nat) : Int), .int .u64 last]) rfl rfl sz52 (show _ = some (Obj.cells #[.slice none 0 0, .int .i64 0, .int .u64 0] 52 (0, 0)) from (Mem.miss nb9_b2.symm (Mem.miss nb2_b1 (Mem.miss nb3_b2.symm (Mem.miss nb3_b2.symm (Mem.hit _ b2 _)))))) rfl rfl (Nat.le_of_ble_eq_true rfl) rfl) ?_
          refine l_y (v := .slice (some ⟨b9, 0, none⟩) ws.length c9) (y_assign) ?_
          refine l_y (v := .bool true) (y_assign) ?_
          refine l_end ?_
          refine e_then ?_
          refine e_ret ?_
          have hin : ¬ inW ws x.a := fun h => absurd h.2 (of_decide_eq_false c2)
          have hd0 : ¬ x.d = 0 := fun h => by rw [h] at c3; simp at c3
          have hd1 : x.d = 1 := eq_of_beq c4
          have eW : refW x last ws = ws := by simp [refW, upW, rdW, hin, hd0, hd1]
          have eL : refL x last ws = last := by simp [refL, rdW, hin, hd0, hd1]
          refine body_ret (m' := m.set b9 (.cells ((wordsL (ws)) ++ rest9).toArray 31)) (l := [.agg #[.slice po l.length c, .int .i64 ((d + 1 : Nat) : Int), .int .u64 (last)], .slice (some ⟨b9, 0, none⟩) ws.length c9, .bool true]) (resVals_cons (resVal_cellN rfl ag52 sz52 (show _ = some (Obj.cells #[.slice po l.length c, .int .i64 ((d + 1 : Nat) : Int), .int .u64 last] 52 (0, 0)) from (Mem.hit _ b2 _)) rfl rfl) (resVals_cons (resVal_tmp rfl) (resVals_cons (resVal_tmp rfl) resVals_nil))) ⟨rfl, fun b o hb => ?_⟩ ⟨b9, c9, rest9, hb9, ?_, ?_, ?_⟩
          · by_cases hne : b = b9
            · rw [hne, Mem.hit] at hb
              rw [hne, ← hb]
              exact (show _ = some (Obj.cells ((wordsL ws ++ rest9).toArray) 31 (0, 0)) from (Mem.miss nb9_b2 (Mem.hit _ b9 _)))
            · rw [Mem.set_ne _ _ hne] at hb
              have k_b1 : b ≠ b1 := Mem.ne_none hb hb1
              have k_b2 : b ≠ b2 := Mem.ne_none hb hb2
              have k_b3 : b ≠ b3 := Mem.ne_none hb hb3
              have k_b9 := hne
              exact (Mem.miss k_b2 (Mem.miss k_b9 (Mem.miss k_b1 (Mem.miss k_b3 (Mem.miss k_b3 (Mem.miss k_b2 (Mem.miss k_b1 hb)))))))
          · rw [eW]; exact ⟨by simp [← hl9, wordsL], hc9⟩
          · rw [eL]; rfl
          · rw [eW]
        · refine e_seq ?_
          refine e_seq ?_
          refine e_reg rfl ?_
          refine l_y (v := .bool (decide (x.a < ((ws.length : Nat) : Int)))) (y_move) ?_
          refine l_end ?_
          refine e_then ?_
          refine e_ifF (t := decide (x.a < ((ws.length : Nat) : Int))) rfl c2 ?_
          refine e_skip ?_
          refine e_then ?_
          refine e_reg rfl ?_
          refine l_y (v := .int .u64 0) (y_move) ?_
          refine l_y (v := .pointer (some ⟨b1, 2, none⟩)) (y_fieldB rfl Try.underlying52 rfl sz31 rfl) ?_
          refine l_d (m' := _) (d_storeB (v := .int .u64 0) (c' := #[.slice po l.length c, .int .i64 ((d + 1 : Nat) : Int), .int .u64 0]) rfl rfl sz31 (show _ = some (Obj.cells #[.slice po l.length c, .int .i64 ((d + 1 : Nat) : Int), .int .u64 last] 52 (0, 0)) from (Mem.miss nb9_b1.symm (Mem.hit _ b1 _))) rfl rfl (Nat.le_of_ble_eq_true rfl) rfl) ?_
          refine l_end ?_
          refine w_block rfl ?_
          refine e_then ?_
          refine e_seq ?_
          refine e_reg rfl ?_
          refine l_y (v := .agg #[.slice po l.length c, .int .i64 ((d + 1 : Nat) : Int), .int .u64 0]) (y_loadNB (l := [.slice po l.length c, .int .i64 ((d + 1 : Nat) : Int), .int .u64 0]) rfl ag52 sz52 (show _ = some (Obj.cells #[.slice po l.length c, .int .i64 ((d + 1 : Nat) : Int), .int .u64 0] 52 (0, 0)) from (Mem.hit _ b1 _)) rfl (Nat.le_of_ble_eq_true rfl)) ?_
          refine l_y (v := .slice (some ⟨b9, 0, none⟩) ws.length c9) (y_move) ?_
          refine l_d (m' := _) (d_storeB (v := .agg #[.slice po l.length c, .int .i64 ((d + 1 : Nat) : Int), .int .u64 0]) (c' := #[.slice po l.length c, .int .i64 ((d + 1 : Nat) : Int), .int .u64 0]) rfl rfl sz52 (show _ = some (Obj.cells #[.slice none 0 0, .int .i64 0, .int .u64 0] 52 (0, 0)) from (Mem.miss nb2_b1 (Mem.miss nb9_b2.symm (Mem.miss nb2_b1 (Mem.miss nb3_b2.symm (Mem.miss nb3_b2.symm (Mem.hit _ b2 _))))))) rfl rfl (Nat.le_of_ble_eq_true rfl) rfl) ?_
          refine l_y (v := .slice (some ⟨b9, 0, none⟩) ws.length c9) (y_assign) ?_
          refine l_y (v := .bool true) (y_assign) ?_
          refine l_end ?_
          refine e_then ?_
          refine e_ret ?_
          have hin : ¬ inW ws x.a := fun h => absurd h.2 (of_decide_eq_false c2)
          have hd0 : ¬ x.d = 0 := fun h => by rw [h] at c3; simp at c3
          have hd1 : ¬ x.d = 1 := fun h => by rw [h] at c4; simp at c4
          have eW : refW x last ws = ws := by simp [refW, upW, rdW, hin, hd0, hd1]
          have eL : refL x last ws = 0 := by simp [refL, rdW, hin, hd0, hd1]
          refine body_ret (m' := m.set b9 (.cells ((wordsL (ws)) ++ rest9).toArray 31)) (l := [.agg #[.slice po l.length c, .int .i64 ((d + 1 : Nat) : Int), .int .u64 (0)], .slice (some ⟨b9, 0, none⟩) ws.length c9, .bool true]) (resVals_cons (resVal_cellN rfl ag52 sz52 (show _ = some (Obj.cells #[.slice po l.length c, .int .i64 ((d + 1 : Nat) : Int), .int .u64 0] 52 (0, 0)) from (Mem.hit _ b2 _)) rfl rfl) (resVals_cons (resVal_tmp rfl) (resVals_cons (resVal_tmp rfl) resVals_nil))) ⟨rfl, fun b o hb => ?_⟩ ⟨b9, c9, rest9, hb9, ?_, ?_, ?_⟩
          · by_cases hne : b = b9
            · rw [hne, Mem.hit] at hb
              rw [hne, ← hb]
              exact (show _ = some (Obj.cells ((wordsL ws ++ rest9).toArray) 31 (0, 0)) from (Mem.miss nb9_b2 (Mem.miss nb9_b1 (Mem.hit _ b9 _))))
            · rw [Mem.set_ne _ _ hne] at hb
              have k_b1 : b ≠ b1 := Mem.ne_none hb hb1
              have k_b2 : b ≠ b2 := Mem.ne_none hb hb2
              have k_b3 : b ≠ b3 := Mem.ne_none hb hb3
              have k_b9 := hne
              exact (Mem.miss k_b2 (Mem.miss k_b1 (Mem.miss k_b9 (Mem.miss k_b1 (Mem.miss k_b3 (Mem.miss k_b3 (Mem.miss k_b2 (Mem.miss k_b1 hb))))))))
          · rw [eW]; exact ⟨by simp [← hl9, wordsL], hc9⟩
          · rw [eL]; rfl
          · rw [eW]
  · refine g_x (b := decide (x.a ≥ 0)) rfl rfl rfl c1 ?_
    refine g_x (b := decide (x.a ≥ 0)) rfl rfl rfl c1 ?_
    refine g_x (b := decide (x.a ≥ 0)) rfl rfl rfl c1 ?_
    refine g_x (b := decide (x.a ≥ 0)) rfl rfl rfl c1 ?_
    refine g_x (b := decide (x.a ≥ 0)) rfl rfl rfl c1 ?_
    refine l_y (v := .bool false) (y_pickF (t := decide (x.a ≥ 0)) rfl c1 rfl) ?_
    refine l_y (v := .bool false) (y_assign) ?_
    refine l_end ?_
    refine e_then ?_
    refine e_seq ?_
    refine e_reg rfl ?_
    refine l_y (v := .int .u64 0) (y_assign) ?_
    refine l_end ?_
    refine e_then ?_
    refine e_seq ?_
    refine e_seq ?_
    refine e_reg rfl ?_
    refine l_y (v := .bool false) (y_move) ?_
    refine l_end ?_
    refine e_then ?_
    refine e_ifF (t := false) rfl rfl ?_
    refine e_skip ?_
    refine e_then ?_
    refine e_seq ?_
    refine e_reg rfl ?_
    refine l_y (v := .slice (some ⟨bm, 0, none⟩) ws.length cm) (y_move) ?_
    refine l_g (gives_append (sz := 1) (n := 0) (k := ws.length) (by_ := 8) (l := []) (ln := wordsL ws) (v := .slice none 0 0) (bo := none) rfl rfl rfl rfl el47 el47 sz31 by31 zr31 rfl (.inl ⟨rfl, rfl, rfl, rfl⟩) (SlB.read (.inr ⟨bm, cm, restm, rfl, rfl, (show _ = some (Obj.cells ((wordsL ws ++ restm).toArray) 31 (0, 0)) from (Mem.miss nb1_bm.symm (Mem.miss nb3_bm.symm (Mem.miss nb3_bm.symm (Mem.miss nb2_bm.symm (Mem.miss nb1_bm.symm hbm)))))), by simp [wordsL], hm1, hm2⟩)) (by simp [wordsL, Value.flat]) (by omega) ⟨by omega, by decide⟩) ?_
    intro v9 m9 happ
    obtain ⟨b9, c9, rest9, rfl, rfl, hl9, hc9, hb9⟩ := apd happ (wl_ne hw0)
    obtain ⟨nb9_b1, hb9⟩ := Mem.none_set hb9
    obtain ⟨nb9_b3, hb9⟩ := Mem.none_set hb9
    obtain ⟨_, hb9⟩ := Mem.none_set hb9
    obtain ⟨nb9_b2, hb9⟩ := Mem.none_set hb9
    obtain ⟨_, hb9⟩ := Mem.none_set hb9
    have nb9_bm := (Mem.ne_none hbm hb9).symm
    have nb9_br := (Mem.ne_none hbr hb9).symm
    refine l_y (v := .slice (some ⟨b9, 0, none⟩) ws.length c9) (y_assign) ?_
    refine l_end ?_
    refine e_then ?_
    refine e_seq ?_
    refine e_seq ?_
    refine e_reg rfl ?_
    refine l_y (v := .pointer (some ⟨b3, 0, none⟩)) (y_fieldB rfl Try.underlying57 rfl sz5 rfl) ?_
    refine l_y (v := .int .u8 x.d) (y_loadB rfl ag5 (show _ = some (Obj.cells #[.int .u8 x.d, .int .i64 x.a, .int .u64 x.v] 57 (0, 0)) from (Mem.miss nb9_b3.symm (Mem.miss nb3_b1 (Mem.hit _ b3 _)))) rfl) ?_
    refine l_end ?_
    refine e_then ?_
    refine e_block ?_
    refine e_seq ?_
    refine e_reg rfl ?_
    refine l_y (v := .bool (x.d == 0)) (y_int (p := x.d) (q := 0) rfl rfl rfl) ?_
    refine l_y (v := .bool (x.d == 0)) (y_assign) ?_
    refine l_end ?_
    refine e_then ?_
    refine e_if (t := x.d == 0) rfl (fun c3 => ?_) (fun c3 => ?_)
    · refine e_reg rfl ?_
      refine l_y (v := .int .u64 0) (y_move) ?_
      refine l_y (v := .pointer (some ⟨b1, 2, none⟩)) (y_fieldB rfl Try.underlying52 rfl sz31 rfl) ?_
      refine l_d (m' := _) (d_storeB (v := .int .u64 0) (c' := #[.slice po l.length c, .int .i64 ((d + 1 : Nat) : Int), .int .u64 0]) rfl rfl sz31 (show _ = some (Obj.cells #[.slice po l.length c, .int .i64 ((d + 1 : Nat) : Int), .int .u64 last] 52 (0, 0)) from (Mem.miss nb9_b1.symm (Mem.hit _ b1 _))) rfl rfl (Nat.le_of_ble_eq_true rfl) rfl) ?_
      refine l_end ?_
      refine w_block rfl ?_
      refine e_then ?_
      refine e_seq ?_
      refine e_reg rfl ?_
      refine l_y (v := .agg #[.slice po l.length c, .int .i64 ((d + 1 : Nat) : Int), .int .u64 0]) (y_loadNB (l := [.slice po l.length c, .int .i64 ((d + 1 : Nat) : Int), .int .u64 0]) rfl ag52 sz52 (show _ = some (Obj.cells #[.slice po l.length c, .int .i64 ((d + 1 : Nat) : Int), .int .u64 0] 52 (0, 0)) from (Mem.hit _ b1 _)) rfl (Nat.le_of_ble_eq_true rfl)) ?_
      refine l_y (v := .slice (some ⟨b9, 0, none⟩) ws.length c9) (y_move) ?_
      refine l_d (m' := _) (d_storeB (v := .agg #[.slice po l.length c, .int .i64 ((d + 1 : Nat) : Int), .int .u64 0]) (c' := #[.slice po l.length c, .int .i64 ((d + 1 : Nat) : Int), .int .u64 0]) rfl rfl sz52 (show _ = some (Obj.cells #[.slice none 0 0, .int .i64 0, .int .u64 0] 52 (0, 0)) from (Mem.miss nb2_b1 (Mem.miss nb9_b2.symm (Mem.miss nb2_b1 (Mem.miss nb3_b2.symm (Mem.miss nb3_b2.symm (Mem.hit _ b2 _))))))) rfl rfl (Nat.le_of_ble_eq_true rfl) rfl) ?_
      refine l_y (v := .slice (some ⟨b9, 0, none⟩) ws.length c9) (y_assign) ?_
      refine l_y (v := .bool true) (y_assign) ?_
      refine l_end ?_
      refine e_then ?_
      refine e_ret ?_
      have hin : ¬ inW ws x.a := fun h => absurd h.1 (of_decide_eq_false c1)
      have hd0 : x.d = 0 := eq_of_beq c3
      have eW : refW x last ws = ws := by simp [refW, upW, rdW, hin, hd0]
      have eL : refL x last ws = 0 := by simp [refL, rdW, hin, hd0]
      refine body_ret (m' := m.set b9 (.cells ((wordsL (ws)) ++ rest9).toArray 31)) (l := [.agg #[.slice po l.length c, .int .i64 ((d + 1 : Nat) : Int), .int .u64 (0)], .slice (some ⟨b9, 0, none⟩) ws.length c9, .bool true]) (resVals_cons (resVal_cellN rfl ag52 sz52 (show _ = some (Obj.cells #[.slice po l.length c, .int .i64 ((d + 1 : Nat) : Int), .int .u64 0] 52 (0, 0)) from (Mem.hit _ b2 _)) rfl rfl) (resVals_cons (resVal_tmp rfl) (resVals_cons (resVal_tmp rfl) resVals_nil))) ⟨rfl, fun b o hb => ?_⟩ ⟨b9, c9, rest9, hb9, ?_, ?_, ?_⟩
      · by_cases hne : b = b9
        · rw [hne, Mem.hit] at hb
          rw [hne, ← hb]
          exact (show _ = some (Obj.cells ((wordsL ws ++ rest9).toArray) 31 (0, 0)) from (Mem.miss nb9_b2 (Mem.miss nb9_b1 (Mem.hit _ b9 _))))
        · rw [Mem.set_ne _ _ hne] at hb
          have k_b1 : b ≠ b1 := Mem.ne_none hb hb1
          have k_b2 : b ≠ b2 := Mem.ne_none hb hb2
          have k_b3 : b ≠ b3 := Mem.ne_none hb hb3
          have k_b9 := hne
          exact (Mem.miss k_b2 (Mem.miss k_b1 (Mem.miss k_b9 (Mem.miss k_b1 (Mem.miss k_b3 (Mem.miss k_b3 (Mem.miss k_b2 (Mem.miss k_b1 hb))))))))
      · rw [eW]; exact ⟨by simp [← hl9, wordsL], hc9⟩
      · rw [eL]; rfl
      · rw [eW]
    · refine e_seq ?_
      refine e_reg rfl ?_
      refine l_y (v := .bool (x.d == 1)) (y_int (p := x.d) (q := 1) rfl rfl rfl) ?_
      refine l_y (v := .bool (x.d == 1)) (y_assign) ?_
      refine l_end ?_
      refine e_then ?_
      refine e_if (t := x.d == 1) rfl (fun c4 => ?_) (fun c4 => ?_)
      · refine e_seq ?_
        refine e_reg rfl ?_
        refine l_y (v := .bool false) (y_move) ?_
        refine l_end ?_
        refine e_then ?_
        refine e_ifF (t := false) rfl rfl ?_
        refine e_skip ?_
        refine w_block rfl ?_
        refine e_then ?_
        refine e_seq ?_
        refine e_reg rfl ?_
        refine l_y (v := .agg #[.slice po l.length c, .int .i64 ((d + 1 : Nat) : Int), .int .u64 last]) (y_loadNB (l := [.slice po l.length c, .int .i64 ((d + 1 : Nat) : Int), .int .u64 last]) rfl ag52 sz52 (show _ = some (Obj.cells #[.slice po l.length c, .int .i64 ((d + 1 : Nat) : Int), .int .u64 last] 52 (0, 0)) from (Mem.miss nb9_b1.symm (Mem.hit _ b1 _))) rfl (Nat.le_of_ble_eq_true rfl)) ?_
        refine l_y (v := .slice (some ⟨b9, 0, none⟩) ws.length c9) (y_move) ?_
        refine l_d (m' := _) (d_storeB (v := .agg #[.slice po l.length c, .int .i64 ((d + 1 : Nat) : Int), .int .u64 last]) (c' := #[.slice po l.length c, .int .i64 ((d + 1 : Nat) : Int), .int .u64 last]) rfl rfl sz52 (show _ = some (Obj.cells #[.slice none 0 0, .int .i64 0, .int .u64 0] 52 (0, 0)) from (Mem.miss nb9_b2.symm (Mem.miss nb2_b1 (Mem.miss nb3_b2.symm (Mem.miss nb3_b2.symm (Mem.hit _ b2 _)))))) rfl rfl (Nat.le_of_ble_eq_true rfl) rfl) ?_
        refine l_y (v := .slice (some ⟨b9, 0, none⟩) ws.length c9) (y_assign) ?_
        refine l_y (v := .bool true) (y_assign) ?_
        refine l_end ?_
        refine e_then ?_
        refine e_ret ?_
        have hin : ¬ inW ws x.a := fun h => absurd h.1 (of_decide_eq_false c1)
        have hd0 : ¬ x.d = 0 := fun h => by rw [h] at c3; simp at c3
        have hd1 : x.d = 1 := eq_of_beq c4
        have eW : refW x last ws = ws := by simp [refW, upW, rdW, hin, hd0, hd1]
        have eL : refL x last ws = last := by simp [refL, rdW, hin, hd0, hd1]
        refine body_ret (m' := m.set b9 (.cells ((wordsL (ws)) ++ rest9).toArray 31)) (l := [.agg #[.slice po l.length c, .int .i64 ((d + 1 : Nat) : Int), .int .u64 (last)], .slice (some ⟨b9, 0, none⟩) ws.length c9, .bool true]) (resVals_cons (resVal_cellN rfl ag52 sz52 (show _ = some (Obj.cells #[.slice po l.length c, .int .i64 ((d + 1 : Nat) : Int), .int .u64 last] 52 (0, 0)) from (Mem.hit _ b2 _)) rfl rfl) (resVals_cons (resVal_tmp rfl) (resVals_cons (resVal_tmp rfl) resVals_nil))) ⟨rfl, fun b o hb => ?_⟩ ⟨b9, c9, rest9, hb9, ?_, ?_, ?_⟩
        · by_cases hne : b = b9
          · rw [hne, Mem.hit] at hb
            rw [hne, ← hb]
            exact (show _ = some (Obj.cells ((wordsL ws ++ rest9).toArray) 31 (0, 0)) from (Mem.miss nb9_b2 (Mem.hit _ b9 _)))
          · rw [Mem.set_ne _ _ hne] at hb
            have k_b1 : b ≠ b1 := Mem.ne_none hb hb1
            have k_b2 : b ≠ b2 := Mem.ne_none hb hb2
            have k_b3 : b ≠ b3 := Mem.ne_none hb hb3
            have k_b9 := hne
            exact (Mem.miss k_b2 (Mem.miss k_b9 (Mem.miss k_b1 (Mem.miss k_b3 (Mem.miss k_b3 (Mem.miss k_b2 (Mem.miss k_b1 hb)))))))
        · rw [eW]; exact ⟨by simp [← hl9, wordsL], hc9⟩
        · rw [eL]; rfl
        · rw [eW]
      · refine e_seq ?_
        refine e_seq ?_
        refine e_reg rfl ?_
        refine l_y (v := .bool false) (y_move) ?_
        refine l_end ?_
        refine e_then ?_
        refine e_ifF (t := false) rfl rfl ?_
        refine e_skip ?_
        refine e_then ?_
        refine e_reg rfl ?_
        refine l_y (v := .int .u64 0) (y_move) ?_
        refine l_y (v := .pointer (some ⟨b1, 2, none⟩)) (y_fieldB rfl Try.underlying52 rfl sz31 rfl) ?_
        refine l_d (m' := _) (d_storeB (v := .int .u64 0) (c' := #[.slice po l.length c, .int .i64 ((d + 1 : Nat) : Int), .int .u64 0]) rfl rfl sz31 (show _ = some (Obj.cells #[.slice po l.length c, .int .i64 ((d + 1 : Nat) : Int), .int .u64 last] 52 (0, 0)) from (Mem.miss nb9_b1.symm (Mem.hit _ b1 _))) rfl rfl (Nat.le_of_ble_eq_true rfl) rfl) ?_
        refine l_end ?_
        refine w_block rfl ?_
        refine e_then ?_
        refine e_seq ?_
        refine e_reg rfl ?_
        refine l_y (v := .agg #[.slice po l.length c, .int .i64 ((d + 1 : Nat) : Int), .int .u64 0]) (y_loadNB (l := [.slice po l.length c, .int .i64 ((d + 1 : Nat) : Int), .int .u64 0]) rfl ag52 sz52 (show _ = some (Obj.cells #[.slice po l.length c, .int .i64 ((d + 1 : Nat) : Int), .int .u64 0] 52 (0, 0)) from (Mem.hit _ b1 _)) rfl (Nat.le_of_ble_eq_true rfl)) ?_
        refine l_y (v := .slice (some ⟨b9, 0, none⟩) ws.length c9) (y_move) ?_
        refine l_d (m' := _) (d_storeB (v := .agg #[.slice po l.length c, .int .i64 ((d + 1 : Nat) : Int), .int .u64 0]) (c' := #[.slice po l.length c, .int .i64 ((d + 1 : Nat) : Int), .int .u64 0]) rfl rfl sz52 (show _ = some (Obj.cells #[.slice none 0 0, .int .i64 0, .int .u64 0] 52 (0, 0)) from (Mem.miss nb2_b1 (Mem.miss nb9_b2.symm (Mem.miss nb2_b1 (Mem.miss nb3_b2.symm (Mem.miss nb3_b2.symm (Mem.hit _ b2 _))))))) rfl rfl (Nat.le_of_ble_eq_true rfl) rfl) ?_
        refine l_y (v := .slice (some ⟨b9, 0, none⟩) ws.length c9) (y_assign) ?_
        refine l_y (v := .bool true) (y_assign) ?_
        refine l_end ?_
        refine e_then ?_
        refine e_ret ?_
        have hin : ¬ inW ws x.a := fun h => absurd h.1 (of_decide_eq_false c1)
        have hd0 : ¬ x.d = 0 := fun h => by rw [h] at c3; simp at c3
        have hd1 : ¬ x.d = 1 := fun h => by rw [h] at c4; simp at c4
        have eW : refW x last ws = ws := by simp [refW, upW, rdW, hin, hd0, hd1]
        have eL : refL x last ws = 0 := by simp [refL, rdW, hin, hd0, hd1]
        refine body_ret (m' := m.set b9 (.cells ((wordsL (ws)) ++ rest9).toArray 31)) (l := [.agg #[.slice po l.length c, .int .i64 ((d + 1 : Nat) : Int), .int .u64 (0)], .slice (some ⟨b9, 0, none⟩) ws.length c9, .bool true]) (resVals_cons (resVal_cellN rfl ag52 sz52 (show _ = some (Obj.cells #[.slice po l.length c, .int .i64 ((d + 1 : Nat) : Int), .int .u64 0] 52 (0, 0)) from (Mem.hit _ b2 _)) rfl rfl) (resVals_cons (resVal_tmp rfl) (resVals_cons (resVal_tmp rfl) resVals_nil))) ⟨rfl, fun b o hb => ?_⟩ ⟨b9, c9, rest9, hb9, ?_, ?_, ?_⟩
        · by_cases hne : b = b9
          · rw [hne, Mem.hit] at hb
            rw [hne, ← hb]
            exact (show _ = some (Obj.cells ((wordsL ws ++ rest9).toArray) 31 (0, 0)) from (Mem.miss nb9_b2 (Mem.miss nb9_b1 (Mem.hit _ b9 _))))
          · rw [Mem.set_ne _ _ hne] at hb
            have k_b1 : b ≠ b1 := Mem.ne_none hb hb1
            have k_b2 : b ≠ b2 := Mem.ne_none hb hb2
            have k_b3 : b ≠ b3 := Mem.ne_none hb hb3
            have k_b9 := hne
            exact (Mem.miss k_b2 (Mem.miss k_b1 (Mem.miss k_b9 (Mem.miss k_b1 (Mem.miss k_b3 (Mem.miss k_b3 (Mem.miss k_b2 (Mem.miss k_b1 hb))))))))
        · rw [eW]; exact ⟨by simp [← hl9, wordsL], hc9⟩
        · rw [eL]; rfl
        · rw [eW]
set_option maxRecDepth 20000 in
set_option pp.maxSteps 1500 in
theorem c_refEnd (po : Option Addr) (c d : Nat) (l : List Tch) (last : Int) (mv : Value) (m : Mem) (hd : l.length ≤ d) :
    CallM Try.prog 22 #[.agg #[.slice po l.length c, .int .i64 ((d : Nat) : Int), .int .u64 last], mv] m (Ret (.tuple #[.agg #[.slice po l.length c, .int .i64 ((d : Nat) : Int), .int .u64 last], mv, .bool false]) m) := by
  have hdn : decide (((d : Nat) : Int) ≥ ((l.length : Nat) : Int)) = true := by simp; omega
  refine callM_body (args := [.agg #[.slice po l.length c, .int .i64 ((d : Nat) : Int), .int .u64 last], mv]) Try.func22 rfl rfl rfl ?_
  refine e_seq ?_
  refine e_reg rfl ?_
  refine l_n (v := fun b => .pointer (some ⟨b, 0, none⟩)) (x := .cells #[.slice po l.length c, .int .i64 ((d : Nat) : Int), .int .u64 last] 52) (n_box (v := .agg #[.slice po l.length c, .int .i64 ((d : Nat) : Int), .int .u64 last]) rfl) (fun b1 hb1 => ?_)
  refine l_n (v := fun b => .pointer (some ⟨b, 0, none⟩)) (x := .cells #[.slice none 0 0, .int .i64 0, .int .u64 0] 52) (n_alloc zr52) (fun b2 hb2 => ?_)
  obtain ⟨nb2_b1, hb2⟩ := Mem.none_set hb2
  refine l_y (v := .slice none 0 0) (y_assign) ?_
  refine l_y (v := .bool false) (y_assign) ?_
  refine l_end ?_
  refine e_then ?_
  refine e_seq ?_
  refine e_seq ?_
  refine e_reg rfl ?_
  refine l_y (v := .pointer (some ⟨b1, 1, none⟩)) (y_fieldB rfl Try.underlying52 rfl sz3 rfl) ?_
  refine l_y (v := .int .i64 ((d : Nat) : Int)) (y_loadB rfl ag3 (show _ = some (Obj.cells #[.slice po l.length c, .int .i64 ((d : Nat) : Int), .int .u64 last] 52 (0, 0)) from (Mem.miss nb2_b1.symm (Mem.hit _ b1 _))) rfl) ?_
  refine l_y (v := .pointer (some ⟨b1, 0, none⟩)) (y_fieldB rfl Try.underlying52 rfl sz49 rfl) ?_
  refine l_y (v := .slice po l.length c) (y_loadB rfl ag49 (show _ = some (Obj.cells #[.slice po l.length c, .int .i64 ((d : Nat) : Int), .int .u64 last] 52 (0, 0)) from (Mem.miss nb2_b1.symm (Mem.hit _ b1 _))) rfl) ?_
  refine l_y (v := .int .i64 ((l.length : Nat) : Int)) (y_len (b := po) (n := l.length) (c := c) rfl rfl el49) ?_
  refine l_y (v := .bool (decide (((d : Nat) : Int) ≥ ((l.length : Nat) : Int)))) (y_int (p := ((d : Nat) : Int)) (q := ((l.length : Nat) : Int)) rfl rfl rfl) ?_
  refine l_end ?_
  refine e_then ?_
  refine e_ifT (t := decide (((d : Nat) : Int) ≥ ((l.length : Nat) : Int))) rfl hdn ?_
  refine e_seq ?_
  refine e_reg rfl ?_
  refine l_y (v := .agg #[.slice po l.length c, .int .i64 ((d : Nat) : Int), .int .u64 last]) (y_loadNB (l := [.slice po l.length c, .int .i64 ((d : Nat) : Int), .int .u64 last]) rfl ag52 sz52 (show _ = some (Obj.cells #[.slice po l.length c, .int .i64 ((d : Nat) : Int), .int .u64 last] 52 (0, 0)) from (Mem.miss nb2_b1.symm (Mem.hit _ b1 _))) rfl (Nat.le_of_ble_eq_true rfl)) ?_
  refine l_y (v := mv) (y_move) ?_
  refine l_d (m' := _) (d_storeB (v := .agg #[.slice po l.length c, .int .i64 ((d : Nat) : Int), .int .u64 last]) (c' := #[.slice po l.length c, .int .i64 ((d : Nat) : Int), .int .u64 last]) rfl rfl sz52 (show _ = some (Obj.cells #[.slice none 0 0, .int .i64 0, .int .u64 0] 52 (0, 0)) from (Mem.hit _ b2 _)) rfl rfl (Nat.le_of_ble_eq_true rfl) rfl) ?_
  refine l_y (v := mv) (y_assign) ?_
  refine l_y (v := .bool false) (y_assign) ?_
  refine l_end ?_
  refine e_then ?_
  refine e_ret ?_
  refine w_then rfl ?_
  refine body_ret (m' := m) (l := [.agg #[.slice po l.length c, .int .i64 ((d : Nat) : Int), .int .u64 last], mv, .bool false]) (resVals_cons (resVal_cellN rfl ag52 sz52 (show _ = some (Obj.cells #[.slice po l.length c, .int .i64 ((d : Nat) : Int), .int .u64 last] 52 (0, 0)) from (Mem.hit _ b2 _)) rfl rfl) (resVals_cons (resVal_tmp rfl) (resVals_cons (resVal_tmp rfl) resVals_nil))) ⟨rfl, fun b o hb => ?_⟩ ⟨rfl, rfl⟩
  have k_b1 : b ≠ b1 := Mem.ne_none hb hb1
  have k_b2 : b ≠ b2 := Mem.ne_none hb hb2
  exact (Mem.miss k_b2 (Mem.miss k_b2 (Mem.miss k_b1 hb)))
set_option maxRecDepth 20000 in
set_option pp.maxSteps 1500 in
theorem c_Touched (ba bw : Nat) (ws : List Int) (tc la : Int) (m : Mem) (h_ba : m ba = some (arB bw ws tc la)) : CallM Try.prog 23 #[.pointer (some ⟨ba, 0, none⟩)] m (Ret (.int .u64 tc) m) := by
  refine callM_body (args := [.pointer (some ⟨ba, 0, none⟩)]) Try.func23 rfl rfl rfl ?_
  refine e_seq ?_
  refine e_reg rfl ?_
  refine l_y (v := .int .u64 0) (y_assign) ?_
  refine l_end ?_
  refine e_then ?_
  refine e_seq ?_
  refine e_seq ?_
  refine e_reg rfl ?_
  refine l_y (v := .pointer (some ⟨ba, 0, none⟩)) (y_move) ?_
  refine l_y (v := .bool false) (y_eql (r := false) rfl rfl rfl rfl) ?_
  refine l_end ?_
  refine e_then ?_
  refine e_ifF (t := false) rfl rfl ?_
  refine e_skip ?_
  refine e_then ?_
  refine e_seq ?_
  refine e_reg rfl ?_
  refine l_y (v := .pointer (some ⟨ba, 0, none⟩)) (y_move) ?_
  refine l_y (v := .pointer (some ⟨ba, 0, none⟩)) (y_nilCheck rfl) ?_
  refine l_y (v := .pointer (some ⟨ba, 1, none⟩)) (y_fieldB rfl Try.underlying106 rfl sz31 rfl) ?_
  refine l_y (v := .int .u64 tc) (y_loadB rfl ag31 h_ba rfl) ?_
  refine l_y (v := .int .u64 tc) (y_assign) ?_
  refine l_end ?_
  refine e_then ?_
  refine e_ret ?_
  exact body_ret (l := [.int .u64 tc]) (resVals_cons (resVal_tmp rfl) resVals_nil) (Mem.le_refl _) ⟨rfl, rfl⟩
set_option maxRecDepth 20000 in
set_option pp.maxSteps 1500 in
theorem c_All (ba bw : Nat) (ws : List Int) (tc la : Int) (m : Mem) (h_ba : m ba = some (arB bw ws tc la)) (h_bw : m bw = some (.cells (wordsV ws) 31)) (hw0 : 0 < ws.length) (hw1 : ws.length < 1000) : CallM Try.prog 24 #[.pointer (some ⟨ba, 0, none⟩)] m (fun e m' => ∃ b9 c9 rest9, m b9 = none ∧ ((wordsL ws ++ rest9).length = c9 * 1 ∧ ws.length ≤ c9) ∧ e = .returned (.slice (some ⟨b9, 0, none⟩) ws.length c9) ∧ m' = m.set b9 (.cells (wordsL ws ++ rest9).toArray 31)) := by
  refine callM_body (args := [.pointer (some ⟨ba, 0, none⟩)]) Try.func24 rfl rfl rfl ?_
  refine e_seq ?_
  refine e_reg rfl ?_
  refine l_y (v := .slice none 0 0) (y_assign) ?_
  refine l_end ?_
  refine e_then ?_
  refine e_seq ?_
  refine e_seq ?_
  refine e_reg rfl ?_
  refine l_y (v := .pointer (some ⟨ba, 0, none⟩)) (y_move) ?_
  refine l_y (v := .bool false) (y_eql (r := false) rfl rfl rfl rfl) ?_
  refine l_end ?_
  refine e_then ?_
  refine e_ifF (t := false) rfl rfl ?_
  refine e_skip ?_
  refine e_then ?_
  refine e_seq ?_
  refine e_reg rfl ?_
  refine l_y (v := .pointer (some ⟨ba, 0, none⟩)) (y_move) ?_
  refine l_y (v := .pointer (some ⟨ba, 0, none⟩)) (y_nilCheck rfl) ?_
  refine l_y (v := .pointer (some ⟨ba, 0, none⟩)) (y_fieldB rfl Try.underlying106 rfl sz47 rfl) ?_
  refine l_y (v := .slice (some ⟨bw, 0, none⟩) ws.length ws.length) (y_loadB rfl ag47 h_ba rfl) ?_
  refine l_g (gives_append (sz := 1) (n := 0) (k := ws.length) (by_ := 8) (l := []) (ln := wordsL ws) (v := .slice none 0 0) (bo := none) rfl rfl rfl rfl el47 el47 sz31 by31 zr31 rfl (.inl ⟨rfl, rfl, rfl, rfl⟩) (SlB.read (.inr ⟨bw, ws.length, [], rfl, rfl, by rw [← wordsV_L]; exact h_bw, by simp [wordsL], by simp [wordsL], Nat.le_refl _⟩)) (by simp [wordsL, Value.flat]) (by omega) ⟨by omega, by decide⟩) ?_
  intro v9 m9 happ
  obtain ⟨b9, c9, rest9, rfl, rfl, hl9, hc9, hb9⟩ := apd happ (wl_ne hw0)
  refine l_y (v := .slice (some ⟨b9, 0, none⟩) ws.length c9) (y_assign) ?_
  refine l_end ?_
  refine e_then ?_
  refine e_ret ?_
  exact body_ret (l := [.slice (some ⟨b9, 0, none⟩) ws.length c9]) (resVals_cons (resVal_tmp rfl) resVals_nil) (Mem.le_refl _) ⟨b9, c9, rest9, hb9, ⟨by rw [Nat.mul_one]; exact hl9, hc9⟩, rfl, rfl⟩
set_option maxRecDepth 20000 in
set_option pp.maxSteps 1500 in
theorem c_great (W : World) (rs : List Rw) (pl po : Option Addr) (cl n co : Nat) (m : Mem) (hrs : InRows W pl rs) (hM : ∀ b o, roW W b = some o → m.at_ b = some o) : CallM Try.prog 20 #[.slice pl rs.length cl, .slice po n co] m (fun e m' => ∃ g, e = .returned (.bool g) ∧ m' = m ∧ (g = false → rs.length ≤ 5 ∧ n ≤ 150 ∧ ∀ r ∈ rs, r.l.length ≤ 20)) := by
  refine callM_body (args := [.slice pl rs.length cl, .slice po n co]) Try.func20 rfl rfl rfl ?_
  refine e_seq ?_
  refine e_reg rfl ?_
  refine l_y (v := .bool false) (y_assign) ?_
  refine l_end ?_
  refine e_then ?_
  refine e_seq ?_
  refine e_seq ?_
  refine e_reg rfl ?_
  refine l_y (v := .slice pl rs.length cl) (y_move) ?_
  refine l_y (v := .int .i64 ((rs.length : Nat) : Int)) (y_len (b := pl) (n := rs.length) (c := cl) rfl rfl el44) ?_
  refine l_y (v := .bool (decide (((rs.length : Nat) : Int) > 5))) (y_int (p := ((rs.length : Nat) : Int)) (q := 5) rfl rfl rfl) ?_
  refine l_y (v := .bool (decide (((rs.length : Nat) : Int) > 5))) (y_move) ?_
  rcases Bool.eq_false_or_eq_true (decide (((rs.length : Nat) : Int) > 5)) with c1 | c1
  · refine g_x (b := decide (((rs.length : Nat) : Int) > 5)) rfl rfl rfl c1 ?_
    refine g_x (b := decide (((rs.length : Nat) : Int) > 5)) rfl rfl rfl c1 ?_
    refine g_x (b := decide (((rs.length : Nat) : Int) > 5)) rfl rfl rfl c1 ?_
    refine l_y (v := .bool true) (y_pickT (t := decide (((rs.length : Nat) : Int) > 5)) rfl c1 rfl) ?_
    refine l_end ?_
    refine e_then ?_
    refine e_ifT (t := true) rfl rfl ?_
    refine e_seq ?_
    refine e_reg rfl ?_
    refine l_y (v := .bool true) (y_assign) ?_
    refine l_end ?_
    refine e_then ?_
    refine e_ret ?_
    refine w_then rfl ?_
    exact body_ret (l := [.bool true]) (resVals_cons (resVal_tmp rfl) resVals_nil) (Mem.le_refl _) ⟨true, rfl, rfl, fun h => by cases h⟩
  · refine g_y (v := .slice po n co) (b := decide (((rs.length : Nat) : Int) > 5)) rfl rfl rfl c1 (y_move) ?_
    refine g_y (v := .int .i64 ((n : Nat) : Int)) (b := decide (((rs.length : Nat) : Int) > 5)) rfl rfl rfl c1 (y_len (b := po) (n := n) (c := co) rfl rfl el37) ?_
    refine g_y (v := .bool (decide (((n : Nat) : Int) > 150))) (b := decide (((rs.length : Nat) : Int) > 5)) rfl rfl rfl c1 (y_int (p := ((n : Nat) : Int)) (q := 150) rfl rfl rfl) ?_
    refine l_y (v := .bool (decide (((n : Nat) : Int) > 150))) (y_pickF (t := decide (((rs.length : Nat) : Int) > 5)) rfl c1 rfl) ?_
    refine l_end ?_
    refine e_then ?_
    refine e_if (t := decide (((n : Nat) : Int) > 150)) rfl (fun c2 => ?_) (fun c2 => ?_)
    · refine e_seq ?_
      refine e_reg rfl ?_
      refine l_y (v := .bool true) (y_assign) ?_
      refine l_end ?_
      refine e_then ?_
      refine e_ret ?_
      refine w_then rfl ?_
      exact body_ret (l := [.bool true]) (resVals_cons (resVal_tmp rfl) resVals_nil) (Mem.le_refl _) ⟨true, rfl, rfl, fun h => by cases h⟩
    · refine e_skip ?_
      refine e_then ?_
      refine e_seq ?_
      refine e_seq ?_
      refine e_reg rfl ?_
      refine l_y (v := .int .i64 0) (y_assign) ?_
      refine l_end ?_
      refine e_then ?_
      refine e_block ?_
      refine e_loop (σ := Nat) (live := fun s => [(0, .slice pl rs.length cl), (1, .slice po n co), (5, .int .i64 ((s : Nat) : Int))]) (mem := fun _ => m) (I := fun s => s ≤ rs.length ∧ ∀ j r, j < s → rs[j]? = some r → r.l.length ≤ 20) (μ := fun s => rs.length - s) 0 ⟨Nat.zero_le _, fun j r h => absurd h (Nat.not_lt_zero j)⟩ rfl (live_cons rfl (live_cons rfl (live_cons rfl live_nil))) ?_
      rintro k base ⟨hk, hr⟩
      refine e_seq ?_
      refine e_seq ?_
      refine e_reg rfl ?_
      refine l_y (v := .int .i64 ((k : Nat) : Int)) (y_move) ?_
      refine l_y (v := .slice pl rs.length cl) (y_move) ?_
      refine l_y (v := .int .i64 ((rs.length : Nat) : Int)) (y_len (b := pl) (n := rs.length) (c := cl) rfl rfl el44) ?_
      refine l_y (v := .bool (decide (((k : Nat) : Int) < ((rs.length : Nat) : Int)))) (y_int (p := ((k : Nat) : Int)) (q := ((rs.length : Nat) : Int)) rfl rfl rfl) ?_
      refine l_end ?_
      refine e_then ?_
      refine e_if (t := decide (((k : Nat) : Int) < ((rs.length : Nat) : Int))) rfl (fun c3 => ?_) (fun c3 => ?_)
      · refine e_skip ?_
        refine e_then ?_
        refine e_seq ?_
        refine e_block ?_
        refine e_seq ?_
        have hlt : k < rs.length := by simp at c3; omega
        obtain ⟨ib, io, ic, ie, hpt, hib, hget⟩ := hrs.at hM (by intro z; rw [z] at hlt; simp at hlt)
        obtain ⟨x, hx⟩ : ∃ x, rs[k]? = some x := ⟨_, List.getElem?_eq_getElem hlt⟩
        refine e_reg rfl ?_
        refine l_y (v := .slice pl rs.length cl) (y_move) ?_
        refine l_y (v := .int .i64 ((k : Nat) : Int)) (y_move) ?_
        refine l_y (v := .pointer (some ⟨ib, (io + k), none⟩)) (y_indexB (o := io) (j := ((k : Nat) : Int)) (n := rs.length) (c := cl) (by rw [← hpt]; rfl) rfl el44 sz49 (Int.natCast_nonneg k) (by omega) (by simp)) ?_
        refine l_y (v := .slice x.po x.l.length x.c) (y_loadB rfl ag49 (show m ib = some _ from hib) (hget k x hx)) ?_
        refine l_y (v := .int .i64 ((x.l.length : Nat) : Int)) (y_len (b := x.po) (n := x.l.length) (c := x.c) rfl rfl el49) ?_
        refine l_y (v := .bool (decide (((x.l.length : Nat) : Int) > 20))) (y_int (p := ((x.l.length : Nat) : Int)) (q := 20) rfl rfl rfl) ?_
        refine l_end ?_
        refine e_then ?_
        refine e_if (t := decide (((x.l.length : Nat) : Int) > 20)) rfl (fun c4 => ?_) (fun c4 => ?_)
        · refine e_seq ?_
          refine e_reg rfl ?_
          refine l_y (v := .bool true) (y_assign) ?_
          refine l_end ?_
          refine e_then ?_
          refine e_ret ?_
          refine w_block rfl ?_
          refine w_then rfl ?_
          refine w_then rfl ?_
          refine w_block rfl ?_
          refine w_then rfl ?_
          exact body_ret (l := [.bool true]) (resVals_cons (resVal_tmp rfl) resVals_nil) (Mem.le_refl _) ⟨true, rfl, rfl, fun h => by cases h⟩
        · refine e_skip ?_
          refine w_block rfl ?_
          refine e_then ?_
          have hwrap : IntKind.i64.wrap (((k : Nat) : Int) + 1) = ((k + 1 : Nat) : Int) := wrap8 rfl (x := k + 1) (by simp at c1; omega)
          refine e_reg rfl ?_
          refine l_y (v := .int .i64 ((k : Nat) : Int)) (y_move) ?_
          refine l_y (v := .int .i64 ((k + 1 : Nat) : Int)) (y_int (p := ((k : Nat) : Int)) (q := 1) rfl rfl (by rw [← hwrap]; rfl)) ?_
          refine l_y (v := .int .i64 ((k + 1 : Nat) : Int)) (y_assign) ?_
          refine l_end ?_
          refine Sp.w_round (σ := Nat) (s := k) (s' := k + 1) ⟨hlt, fun j r h1 h2 => ?_⟩ (by omega) rfl (fun _ => live_cons rfl (live_cons rfl (live_cons rfl live_nil)))
          by_cases e : j = k
          · subst e; rw [h2] at hx; cases hx; simp at c4; omega
          · exact hr j r (by omega) h2
      · refine e_exit ?_
        refine w_then rfl ?_
        refine w_then rfl ?_
        refine w_exit ?_
        refine e_then ?_
        refine e_seq ?_
        refine e_reg rfl ?_
        refine l_y (v := .bool false) (y_assign) ?_
        refine l_end ?_
        refine e_then ?_
        refine e_ret ?_
        exact body_ret (l := [.bool false]) (resVals_cons (resVal_tmp rfl) resVals_nil) (Mem.le_refl _) ⟨false, rfl, rfl, fun _ => ⟨by simp at c1; omega, by simp at c2; omega, fun r h => by obtain ⟨j, hj, rfl⟩ := List.getElem_of_mem h; exact hr j _ (by simp at c3; omega) (List.getElem?_eq_getElem hj)⟩⟩
end Go.Proofs.Ytpgooljdodijlaa
