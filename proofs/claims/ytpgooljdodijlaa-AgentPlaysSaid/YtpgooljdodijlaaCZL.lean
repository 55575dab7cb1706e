/-
  What is proved: for every input, demesnelaw12.AgentCounts returns true, without a race, on every schedule (the walk; printed by a program). No condition.
-/
import Derived.Test.YtpgooljdodijlaaCZK
namespace Go.Proofs.Ytpgooljdodijlaa
open Go Go.Sp Go.Conc Go.RowKit
attribute [local irreducible] Code.wps OpsS OpsL Oper.wps Sem.wpm CallM RunM
set_option linter.unusedSimpArgs false
set_option linter.unusedVariables false
theorem by3 : byOfS Try.prog 3 = some 8 := by kernel_rfl
theorem by5 : byOfS Try.prog 5 = some 1 := by kernel_rfl
theorem zr5 : zeroOf Try.prog 5 = some (.int .u8 0) := by kernel_rfl
theorem bd9 : bodied Try.prog 9 = true := by kernel_rfl
theorem by22 : byOfS Try.prog 22 = some 8 := by kernel_rfl
theorem zr22 : zeroOf Try.prog 22 = some (.pointer none) := by kernel_rfl
theorem el37 : elemOfS Try.prog 37 = some 5 := by kernel_rfl
theorem el38 : elemOfS Try.prog 38 = some 3 := by kernel_rfl
theorem el39 : elemOfS Try.prog 39 = some 22 := by kernel_rfl
set_option maxRecDepth 20000 in
set_option maxHeartbeats 4000000 in
set_option pp.maxSteps 1500 in
theorem counts_run (W : World) (tl ol : List Nat) (pt po : Option Addr) (ct co : Nat) (htl : InU8 W pt tl) (hol : InU8 W po ol) : EndsW Try.prog (PostL W) (solo (G (Frame.enter Try.prog 4 #[.slice pt tl.length ct, .slice po ol.length co] .normal) []) W) #[] := by
  refine law_ends (L := roL (roW W) roW_ro) (roW_kr W) (r_enter (args := [.slice pt tl.length ct, .slice po ol.length co]) Try.func4 rfl rfl rfl ?_)
  repeat (refine r_seq ?_)
  refine r_code (by decide) ?_
  refine e_reg rfl ?_
  refine l_y (v := .bool false) (y_assign) ?_
  refine l_end ?_
  refine r_way ?_
  repeat (refine r_seq ?_)
  refine r_code (by decide) ?_
  refine e_reg rfl ?_
  refine l_y (v := .slice pt tl.length ct) (y_move) ?_
  refine l_y (v := .int .i64 ((tl.length : Nat) : Int)) (y_len (b := pt) (n := tl.length) (c := ct) rfl rfl el37) ?_
  refine l_y (v := .bool (decide (((tl.length : Nat) : Int) > 8))) (y_int (p := ((tl.length : Nat) : Int)) (q := 8) rfl rfl rfl) ?_
  refine l_y (v := .bool (decide (((tl.length : Nat) : Int) > 8))) (y_move) ?_
  rcases Bool.eq_false_or_eq_true (decide (((tl.length : Nat) : Int) > 8)) with c1 | c1
  · refine g_x (b := decide (((tl.length : Nat) : Int) > 8)) rfl rfl rfl c1 ?_
    refine g_x (b := decide (((tl.length : Nat) : Int) > 8)) rfl rfl rfl c1 ?_
    refine g_x (b := decide (((tl.length : Nat) : Int) > 8)) rfl rfl rfl c1 ?_
    refine l_y (v := .bool true) (y_pickT (t := decide (((tl.length : Nat) : Int) > 8)) rfl c1 rfl) ?_
    refine l_end ?_
    refine r_way ?_
    repeat (refine r_seq ?_)
    refine r_code (by decide) ?_
    refine e_ifT (t := true) rfl rfl ?_
    refine e_seq ?_
    refine e_reg rfl ?_
    refine l_c (e_call bd15 rfl (l := []) rfl) (c_wakes (L := roL (roW W) roW_ro) (N := W.heap.size) (W := W) (Post := PostL W) (M := roW W) (fun b o h => h)) ?_
    rintro e m' ⟨hst, rfl⟩
    refine l_y (v := .bool true) (y_assign) ?_
    refine l_end ?_
    refine e_then ?_
    refine e_ret ?_
    exact law_way Try.func4 rfl (by kernel_rfl) (fun w hw => ⟨rfl, hw⟩) rfl hst
  · refine g_y (v := .slice po ol.length co) (b := decide (((tl.length : Nat) : Int) > 8)) rfl rfl rfl c1 (y_move) ?_
    refine g_y (v := .int .i64 ((ol.length : Nat) : Int)) (b := decide (((tl.length : Nat) : Int) > 8)) rfl rfl rfl c1 (y_len (b := po) (n := ol.length) (c := co) rfl rfl el37) ?_
    refine g_y (v := .bool (decide (((ol.length : Nat) : Int) > 200))) (b := decide (((tl.length : Nat) : Int) > 8)) rfl rfl rfl c1 (y_int (p := ((ol.length : Nat) : Int)) (q := 200) rfl rfl rfl) ?_
    refine l_y (v := .bool (decide (((ol.length : Nat) : Int) > 200))) (y_pickF (t := decide (((tl.length : Nat) : Int) > 8)) rfl c1 rfl) ?_
    refine l_end ?_
    refine r_way ?_
    repeat (refine r_seq ?_)
    refine r_code (by decide) ?_
    refine e_if (t := decide (((ol.length : Nat) : Int) > 200)) rfl (fun c2 => ?_) (fun c2 => ?_)
    · refine e_seq ?_
      refine e_reg rfl ?_
      refine l_c (e_call bd15 rfl (l := []) rfl) (c_wakes (L := roL (roW W) roW_ro) (N := W.heap.size) (W := W) (Post := PostL W) (M := roW W) (fun b o h => h)) ?_
      rintro e m' ⟨hst, rfl⟩
      refine l_y (v := .bool true) (y_assign) ?_
      refine l_end ?_
      refine e_then ?_
      refine e_ret ?_
      exact law_way Try.func4 rfl (by kernel_rfl) (fun w hw => ⟨rfl, hw⟩) rfl hst
    · refine e_skip ?_
      refine r_way ?_
      repeat (refine r_seq ?_)
      refine r_code (by decide) ?_
      have hle : tl.length ≤ 8 := by simp at c1; omega
      have hle2 : ol.length ≤ 200 := by simp at c2; omega
      refine e_reg rfl ?_
      refine l_c (e_call bd10 rfl (l := [.int .i64 ((1 : Nat) : Int)]) rfl) (c_aNew 1 (by decide) (by decide) _) ?_
      rintro e m' ⟨bw, ba, hbw, hba, rfl, rfl⟩
      refine l_y (v := .tuple #[.pointer (some ⟨ba, 0, none⟩), .int .i64 0]) (y_move) ?_
      refine l_y (v := .pointer (some ⟨ba, 0, none⟩)) (y_extract (vs := #[.pointer (some ⟨ba, 0, none⟩), .int .i64 0]) rfl rfl) ?_
      refine l_y (v := .int .i64 0) (y_extract (vs := #[.pointer (some ⟨ba, 0, none⟩), .int .i64 0]) rfl rfl) ?_
      refine l_y (v := .pointer (some ⟨ba, 0, none⟩)) (y_assign) ?_
      refine l_y (v := .int .i64 0) (y_assign) ?_
      refine l_end ?_
      refine r_way ?_
      repeat (refine r_seq ?_)
      refine r_code (by decide) ?_
      refine e_reg rfl ?_
      refine l_y (v := .pointer (some ⟨ba, 0, none⟩)) (y_move) ?_
      refine l_y (v := .bool false) (y_eql (r := false) rfl rfl rfl rfl) ?_
      refine l_y (v := .bool false) (y_move) ?_
      refine g_y (v := .int .i64 0) (b := false) rfl rfl rfl rfl (y_move) ?_
      refine g_y (v := .bool false) (b := false) rfl rfl rfl rfl (y_int (p := 0) (q := 0) rfl rfl rfl) ?_
      refine l_y (v := .bool false) (y_pickF (t := false) rfl rfl rfl) ?_
      refine l_end ?_
      refine r_way ?_
      repeat (refine r_seq ?_)
      refine r_code (by decide) ?_
      refine e_ifF (t := false) rfl rfl ?_
      refine e_skip ?_
      refine r_way ?_
      repeat (refine r_seq ?_)
      refine r_code (by decide) ?_
      refine e_reg rfl ?_
      refine l_y (v := .slice pt tl.length ct) (y_move) ?_
      refine l_y (v := .int .i64 ((tl.length : Nat) : Int)) (y_len (b := pt) (n := tl.length) (c := ct) rfl rfl el37) ?_
      refine l_n (n_makeSlice1 (n := tl.length) rfl el38 sz3 by3 zr3 rfl (by omega) (by omega)) fun be hbe => ?_
      refine l_y (v := .slice (some ⟨be, 0, none⟩) tl.length tl.length) (y_assign) ?_
      refine l_end ?_
      refine r_way ?_
      refine start3 hbw hba hbe fun M1 f_bw f_ba f_be h3 hup hro3 => ?_
      refine r_swap (L := roL (roW W) roW_ro) (L' := (CL ba bw be tl (roW W) h3 roW_ro hro3)) (fun _ _ h => h) ?_
      have hMn : Mn (CL ba bw be tl (roW W) h3 roW_ro hro3) [] (stsOf (tl.take 0)) (fun _ => none) M1 (cS ba bw be (st1 tl 0)) := by
        refine Mn.begin ⟨_, rfl, st1_len (Nat.zero_le _)⟩ (fun b o h => ?_) hup
        rcases cS_some h with ⟨rfl, rfl⟩ | ⟨rfl, rfl⟩ | ⟨rfl, rfl⟩
        · exact f_ba
        · exact f_bw
        · rw [f_be]; congr 2; simp [st1, enOf, intsV]
      repeat (refine r_seq ?_)
      refine r_code (by decide) ?_
      refine e_reg rfl ?_
      refine l_y (v := .slice none 0 0) (y_assign) ?_
      refine l_end ?_
      refine r_way ?_
      repeat (refine r_seq ?_)
      refine r_code (by decide) ?_
      refine e_reg rfl ?_
      refine l_y (v := .bool true) (y_assign) ?_
      refine l_end ?_
      refine r_way ?_
      repeat (refine r_seq ?_)
      refine r_code (by decide) ?_
      refine e_reg rfl ?_
      refine l_y (v := .int .i64 0) (y_assign) ?_
      refine l_end ?_
      refine r_way ?_
      repeat (refine r_seq ?_)
      refine r_code (by decide) ?_
      refine e_block ?_
      refine e_loop (σ := B1 (CL ba bw be tl (roW W) h3 roW_ro hro3)) (live := fun s => [(0, .slice pt tl.length ct), (1, .slice po ol.length co), (5, .pointer (some ⟨ba, 0, none⟩)), (7, .slice (some ⟨be, 0, none⟩) tl.length tl.length), (8, s.av), (9, .bool true), (10, .int .i64 ((s.k : Nat) : Int))]) (mem := fun s => ⟨s.M, Well (CL ba bw be tl (roW W) h3 roW_ro hro3) Try.prog kd W.heap.size W (PostL W) s.tab⟩) (I := fun s => Inv1 (ba := ba) (bw := bw) (be := be) (tl := tl) (ro := roW W) (h3 := h3) (h1 := roW_ro) (h2 := hro3) s) (μ := fun s => tl.length - s.k) ⟨0, M1, fun _ => none, [], .slice none 0 0, none⟩ ⟨Nat.zero_le _, rfl, hMn, .inl ⟨rfl, rfl, rfl, rfl⟩, fun _ h => (by cases h)⟩ rfl (live_cons rfl (live_cons rfl (live_cons rfl (live_cons rfl (live_cons rfl (live_cons rfl (live_cons rfl live_nil))))))) ?_
      rintro ⟨k, M, tab, gs, av, ab⟩ base I
      have hk : k ≤ tl.length := I.k
      have hgl : gs.length = k := I.len
      have H : Mn (CL ba bw be tl (roW W) h3 roW_ro hro3) gs (stsOf (tl.take k)) tab M (cS ba bw be (st1 tl k)) := I.mn
      have hsl : SlB ⟨M, fun _ _ _ _ _ => True⟩ 22 1 av k ab (ptrs gs) := I.sl
      have hoff : ∀ b, ab = some b → cS ba bw be (st1 tl k) b = none ∧ ∀ a ∈ gs, b ≠ a.a := I.off
      dsimp only
      refine e_seq ?_
      refine e_seq ?_
      refine e_reg rfl ?_
      refine l_y (v := .int .i64 ((k : Nat) : Int)) (y_move) ?_
      refine l_y (v := .slice pt tl.length ct) (y_move) ?_
      refine l_y (v := .int .i64 ((tl.length : Nat) : Int)) (y_len (b := pt) (n := tl.length) (c := ct) rfl rfl el37) ?_
      refine l_y (v := .bool (decide (((k : Nat) : Int) < ((tl.length : Nat) : Int)))) (y_int (p := ((k : Nat) : Int)) (q := ((tl.length : Nat) : Int)) rfl rfl rfl) ?_
      refine l_end ?_
      refine e_then ?_
      refine e_if (t := decide (((k : Nat) : Int) < ((tl.length : Nat) : Int))) rfl (fun c3 => ?_) (fun c3 => ?_)
      · refine e_skip ?_
        refine e_then ?_
        refine e_seq ?_
        refine e_block ?_
        refine e_seq ?_
        have hlt : k < tl.length := by simp at c3; omega
        obtain ⟨ib, io, ic, ie, hpt, hib, hsz, hget⟩ := htl.at (M := M) H.ro (by intro z; rw [z] at hlt; simp at hlt)
        obtain ⟨x, hx⟩ : ∃ x, tl[k]? = some x := ⟨_, List.getElem?_eq_getElem hlt⟩
        have hx2 : x < 256 := htl.small x (List.mem_of_getElem? hx)
        have hgx : ic[io + k]? = some (.int .u8 ((x : Nat) : Int)) := by have := hget k hlt; rw [List.getElem?_eq_getElem hlt] at hx; rw [Option.some.inj hx] at this; exact this
        refine e_reg rfl ?_
        refine l_y (v := .slice pt tl.length ct) (y_move) ?_
        refine l_y (v := .int .i64 ((k : Nat) : Int)) (y_move) ?_
        refine l_y (v := .pointer (some ⟨ib, (io + k), none⟩)) (y_indexB (o := io) (j := ((k : Nat) : Int)) (n := tl.length) (c := ct) (by rw [← hpt]; rfl) rfl el37 sz5 (Int.natCast_nonneg k) (by omega) (by simp)) ?_
        refine l_y (v := .int .u8 ((x : Nat) : Int)) (y_loadB rfl ag5 hib hgx) ?_
        refine l_y (v := .int .i64 ((x : Nat) : Int)) (y_convertW (n := ((x : Nat) : Int)) rfl Try.underlying5 Try.underlying3 (wrap8 rfl (by omega))) ?_
        refine l_n (n_alloc zr3) fun t11 h11 => ?_
        refine l_d (d_storeB (v := .int .i64 ((x : Nat) : Int)) (c' := #[.int .i64 ((x : Nat) : Int)]) rfl rfl sz3 (Mem.hit _ _ _) rfl rfl (Nat.le_refl 1) rfl) ?_
        rw [Mem.set_set]
        refine l_end ?_
        refine e_then ?_
        refine e_seq ?_
        refine e_reg rfl ?_
        refine l_y (v := .slice (some ⟨be, 0, none⟩) tl.length tl.length) (y_move) ?_
        refine l_y (v := .int .i64 ((k : Nat) : Int)) (y_move) ?_
        refine l_y (v := .pointer (some ⟨be, k, none⟩)) (y_indexB (o := 0) (j := ((k : Nat) : Int)) (n := tl.length) (c := tl.length) rfl rfl el38 sz3 (Int.natCast_nonneg k) (by omega) (by simp)) ?_
        refine l_n (n_alloc zr40) fun t12 h12 => ?_
        refine l_d (d_storeB (v := .pointer (some ⟨be, k, none⟩)) (c' := #[.pointer (some ⟨be, k, none⟩)]) rfl rfl sz40 (Mem.hit _ _ _) rfl rfl (Nat.le_refl 1) rfl) ?_
        rw [Mem.set_set]
        refine l_end ?_
        refine e_then ?_
        refine e_seq ?_
        refine e_reg rfl ?_
        refine l_y (v := .pointer (some ⟨ba, 0, none⟩)) (y_move) ?_
        refine l_y (v := .iface 23 (.pointer (some ⟨ba, 0, none⟩))) (y_iface rfl if23) ?_
        refine l_y (v := .func (.func 16) #[] #[.pointer (some ⟨t12, 0, none⟩), .pointer (some ⟨t11, 0, none⟩)]) (y_makeFunc (l := []) (k := [.pointer (some ⟨t12, 0, none⟩), .pointer (some ⟨t11, 0, none⟩)]) rfl rfl) ?_
        refine l_c (e_call bd11 rfl (l := [.iface 23 (.pointer (some ⟨ba, 0, none⟩)), .func (.func 16) #[] #[.pointer (some ⟨t12, 0, none⟩), .pointer (some ⟨t11, 0, none⟩)]]) rfl) (count_birth (N := W.heap.size) (W := W) (Post := PostL W) H hx hx2 hgl h11 h12 rfl) ?_
        rintro e m' ⟨ag, M', tab', rfl, hfa, rfl, H', K⟩
        refine l_y (v := .tuple #[.pointer (some ⟨ag.a, 0, none⟩), .int .i64 0]) (y_move) ?_
        refine l_y (v := .pointer (some ⟨ag.a, 0, none⟩)) (y_extract (vs := #[.pointer (some ⟨ag.a, 0, none⟩), .int .i64 0]) rfl rfl) ?_
        refine l_y (v := .int .i64 0) (y_extract (vs := #[.pointer (some ⟨ag.a, 0, none⟩), .int .i64 0]) rfl rfl) ?_
        refine l_y (v := .pointer (some ⟨ag.a, 0, none⟩)) (y_assign) ?_
        refine l_y (v := .int .i64 0) (y_assign) ?_
        refine l_end ?_
        refine e_then ?_
        refine e_seq ?_
        refine e_reg rfl ?_
        refine l_y (v := .bool true) (y_move) ?_
        refine l_y (v := .bool true) (y_move) ?_
        refine g_y (v := .int .i64 0) (b := true) rfl rfl rfl rfl (y_move) ?_
        refine g_y (v := .bool true) (b := true) rfl rfl rfl rfl (y_int (p := 0) (q := 0) rfl rfl rfl) ?_
        refine l_y (v := .bool true) (y_pickT (t := true) rfl rfl rfl) ?_
        refine l_y (v := .bool true) (y_move) ?_
        refine g_y (v := .pointer (some ⟨ag.a, 0, none⟩)) (b := true) rfl rfl rfl rfl (y_move) ?_
        refine g_y (v := .bool true) (b := true) rfl rfl rfl rfl (y_neq (r := false) rfl rfl rfl rfl) ?_
        refine l_y (v := .bool true) (y_pickT (t := true) rfl rfl rfl) ?_
        refine l_y (v := .bool true) (y_assign) ?_
        refine l_end ?_
        refine e_then ?_
        refine e_reg rfl ?_
        refine l_y (v := av) (y_move) ?_
        refine l_y (v := .pointer (some ⟨ag.a, 0, none⟩)) (y_move) ?_
        refine l_n (n_buildSlice (ps := [(0, .pointer (some ⟨ag.a, 0, none⟩))]) (cs := #[.pointer (some ⟨ag.a, 0, none⟩)]) el39 sz22 zr22 (by decide) (by decide) rfl (by kernel_rfl)) fun b16 h16 => ?_
        refine l_g (gives_append (sz := 1) (n := k) (k := 1) (by_ := 8) (l := ptrs gs) (ln := [.pointer (some ⟨ag.a, 0, none⟩)]) (v := av) rfl rfl rfl rfl el39 el39 sz22 by22 zr22 rfl (count_sl hsl hoff K h16) (.inr ⟨b16, 0, 1, _, 22, (0, 0), rfl, Mem.hit _ _ _, Nat.le_refl 1, rfl⟩) rfl (by omega) ⟨by omega, by decide⟩) ?_
        intro v8 m8 happ
        obtain ⟨ab8, M8, rfl, I8⟩ := count_next I hlt hfa H' K h16 happ
        refine l_y (v := v8) (y_assign) ?_
        refine l_end ?_
        refine w_block rfl ?_
        refine e_then ?_
        have hwrap : IntKind.i64.wrap (((k : Nat) : Int) + 1) = ((k + 1 : Nat) : Int) := wrap8 rfl (x := k + 1) (by omega)
        refine e_reg rfl ?_
        refine l_y (v := .int .i64 ((k : Nat) : Int)) (y_move) ?_
        refine l_y (v := .int .i64 ((k + 1 : Nat) : Int)) (y_int (p := ((k : Nat) : Int)) (q := 1) rfl rfl (by rw [← hwrap]; rfl)) ?_
        refine l_y (v := .int .i64 ((k + 1 : Nat) : Int)) (y_assign) ?_
        refine l_end ?_
        refine Sp.w_round (σ := B1 (CL ba bw be tl (roW W) h3 roW_ro hro3)) (s := ⟨k, M, tab, gs, av, ab⟩) (s' := ⟨k + 1, M8, tab', gs ++ [ag], v8, ab8⟩) ?_ ?_ ?_ ?_
        · exact I8
        · dsimp only; omega
        · rfl
        · exact fun _ => (live_cons rfl (live_cons rfl (live_cons rfl (live_cons rfl (live_cons rfl (live_cons rfl (live_cons rfl live_nil)))))))
      · refine e_exit ?_
        refine w_then rfl ?_
        refine w_then rfl ?_
        refine w_exit ?_
        refine r_way ?_
        repeat (refine r_seq ?_)
        refine r_code (by decide) ?_
        have hke : k = tl.length := by simp at c3; omega
        subst hke
        refine e_reg rfl ?_
        refine l_y (v := .int .u64 0) (y_assign) ?_
        refine l_end ?_
        refine r_way ?_
        repeat (refine r_seq ?_)
        refine r_code (by decide) ?_
        refine e_reg rfl ?_
        refine l_y (v := .slice pt tl.length ct) (y_move) ?_
        refine l_g (gives_append (sz := 1) (n := 0) (k := tl.length) (by_ := 1) (l := []) (ln := u8s tl) (v := .slice none 0 0) (bo := none) rfl rfl rfl rfl el37 el37 sz5 by5 zr5 rfl (.inl ⟨rfl, rfl, rfl, rfl⟩) (htl.sl H.ro) (by simp [u8s, Value.flat]) (by omega) ⟨by omega, by decide⟩) ?_
        intro lv m8 happ
        obtain ⟨lb, M8, rfl, C0⟩ := Co.begin H hgl htl.small hsl hoff happ
        refine l_y (v := lv) (y_assign) ?_
        refine l_end ?_
        refine r_way ?_
        repeat (refine r_seq ?_)
        refine r_code (by decide) ?_
        refine e_reg rfl ?_
        refine l_y (v := .int .i64 0) (y_assign) ?_
        refine l_end ?_
        refine r_way ?_
        repeat (refine r_seq ?_)
        refine r_code (by decide) ?_
        refine e_block ?_
        refine e_loop (σ := B2) (live := fun s => [(0, .slice pt tl.length ct), (1, .slice po ol.length co), (5, .pointer (some ⟨ba, 0, none⟩)), (7, .slice (some ⟨be, 0, none⟩) tl.length tl.length), (8, av), (9, .bool true), (15, .int .u64 ((s.sum : Nat) : Int)), (16, lv), (17, .int .i64 ((s.k : Nat) : Int))]) (mem := fun s => ⟨s.M, Well (CL ba bw be tl (roW W) h3 roW_ro hro3) Try.prog kd W.heap.size W (PostL W) s.tab⟩) (I := fun s => s.k ≤ ol.length ∧ s.sum ≤ s.k ∧ Co ba bw be tl (roW W) h3 roW_ro hro3 gs av ab lv lb s.left s.left s.sum s.tc s.la s.tab s.M) (μ := fun s => ol.length - s.k) ⟨0, 0, tl, 0, -1, tab, M8⟩ ⟨Nat.zero_le _, Nat.le_refl _, C0⟩ rfl (live_cons rfl (live_cons rfl (live_cons rfl (live_cons rfl (live_cons rfl (live_cons rfl (live_cons rfl (live_cons rfl (live_cons rfl live_nil))))))))) ?_
        clear C0 happ hMn
        rintro ⟨k, sum, left, tc, la, tab2, M2⟩ base2 ⟨hk2, hsum, C⟩
        dsimp only at hk2 hsum C ⊢
        obtain ⟨p8, c8, rfl⟩ := SlB.slice C.sa
        obtain ⟨p16, c16, rfl⟩ := SlB.slice C.sl
        refine e_seq ?_
        refine e_seq ?_
        refine e_reg rfl ?_
        refine l_y (v := .int .i64 ((k : Nat) : Int)) (y_move) ?_
        refine l_y (v := .slice po ol.length co) (y_move) ?_
        refine l_y (v := .int .i64 ((ol.length : Nat) : Int)) (y_len (b := po) (n := ol.length) (c := co) rfl rfl el37) ?_
        refine l_y (v := .bool (decide (((k : Nat) : Int) < ((ol.length : Nat) : Int)))) (y_int (p := ((k : Nat) : Int)) (q := ((ol.length : Nat) : Int)) rfl rfl rfl) ?_
        refine l_y (v := .bool (decide (((k : Nat) : Int) < ((ol.length : Nat) : Int)))) (y_move) ?_
        rcases Bool.eq_false_or_eq_true (decide (((k : Nat) : Int) < ((ol.length : Nat) : Int))) with c4 | c4
        · refine g_y (v := .slice pt tl.length ct) (b := decide (((k : Nat) : Int) < ((ol.length : Nat) : Int))) rfl rfl rfl c4 (y_move) ?_
          refine g_y (v := .int .i64 ((tl.length : Nat) : Int)) (b := decide (((k : Nat) : Int) < ((ol.length : Nat) : Int))) rfl rfl rfl c4 (y_len (b := pt) (n := tl.length) (c := ct) rfl rfl el37) ?_
          refine g_y (v := .bool (decide (((tl.length : Nat) : Int) > 0))) (b := decide (((k : Nat) : Int) < ((ol.length : Nat) : Int))) rfl rfl rfl c4 (y_int (p := ((tl.length : Nat) : Int)) (q := 0) rfl rfl rfl) ?_
          refine l_y (v := .bool (decide (((tl.length : Nat) : Int) > 0))) (y_pickT (t := decide (((k : Nat) : Int) < ((ol.length : Nat) : Int))) rfl c4 rfl) ?_
          refine l_y (v := .bool (decide (((tl.length : Nat) : Int) > 0))) (y_move) ?_
          rcases Bool.eq_false_or_eq_true (decide (((tl.length : Nat) : Int) > 0)) with c5 | c5
          · refine g_y (v := .bool true) (b := decide (((tl.length : Nat) : Int) > 0)) rfl rfl rfl c5 (y_move) ?_
            refine l_y (v := .bool true) (y_pickT (t := decide (((tl.length : Nat) : Int) > 0)) rfl c5 rfl) ?_
            refine l_end ?_
            refine e_then ?_
            refine e_ifT (t := true) rfl rfl ?_
            refine e_skip ?_
            refine e_then ?_
            refine e_seq ?_
            refine e_block ?_
            refine e_seq ?_
            have hlt : k < ol.length := by simp at c4; omega
            have hpos : 0 < tl.length := by simp at c5; omega
            obtain ⟨jb, jo, jc, je, hpo, hjb, hjz, hjet⟩ := hol.at (M := M2) C.mn.ro (by intro z; rw [z] at hlt; simp at hlt)
            obtain ⟨y, hy⟩ : ∃ y, ol[k]? = some y := ⟨_, List.getElem?_eq_getElem hlt⟩
            have hy2 : y < 256 := hol.small y (List.mem_of_getElem? hy)
            have hgy : jc[jo + k]? = some (.int .u8 ((y : Nat) : Int)) := by have := hjet k hlt; rw [List.getElem?_eq_getElem hlt] at hy; rw [Option.some.inj hy] at this; exact this
            obtain ⟨kk, hkk⟩ : ∃ kk, kk = y % tl.length := ⟨_, rfl⟩
            have hrem : intOp .rem .i64 ((y : Nat) : Int) ((tl.length : Nat) : Int) = some (.int .i64 ((kk : Nat) : Int)) := by rw [hkk]; exact intRem (by omega)
            have hkl : kk < tl.length := by rw [hkk]; exact Nat.mod_lt _ hpos
            obtain ⟨a, ha⟩ : ∃ a, gs[kk]? = some a := ⟨_, List.getElem?_eq_getElem (by rw [C.n1]; exact hkl)⟩
            obtain ⟨r, hr⟩ : ∃ r, left[kk]? = some r := ⟨_, List.getElem?_eq_getElem (by rw [C.n2]; exact hkl)⟩
            have hr2 : r < 256 := C.small r (List.mem_of_getElem? hr)
            obtain ⟨b8, cc8, rest8, hab, h8, hm8, hl8, hc8⟩ := SlB.at C.sa hpos
            have hp8 := (Value.slice.inj h8).1
            obtain ⟨b0, hb0⟩ : ∃ b0 : Bool, b0 = decide (0 < r) := ⟨_, rfl⟩
            have hbA : intOp .eql .i64 (if r = 0 then 6 else 0) 0 = some (.bool b0) := by rw [hb0]; by_cases z : r = 0 <;> simp [intOp, z] <;> omega
            have hbB : intOp .gtr .u8 ((r : Nat) : Int) 0 = some (.bool b0) := by rw [hb0]; simp [intOp]
            have hbC : eqScalar Try.prog 4 (.bool b0) (.bool b0) = some true := by cases b0 <;> rfl
            refine e_reg rfl ?_
            refine l_y (v := .slice po ol.length co) (y_move) ?_
            refine l_y (v := .int .i64 ((k : Nat) : Int)) (y_move) ?_
            refine l_y (v := .pointer (some ⟨jb, (jo + k), none⟩)) (y_indexB (o := jo) (j := ((k : Nat) : Int)) (n := ol.length) (c := co) (by rw [← hpo]; rfl) rfl el37 sz5 (Int.natCast_nonneg k) (by omega) (by simp)) ?_
            refine l_y (v := .int .u8 ((y : Nat) : Int)) (y_loadB rfl ag5 hjb hgy) ?_
            refine l_y (v := .int .i64 ((y : Nat) : Int)) (y_convertW (n := ((y : Nat) : Int)) rfl Try.underlying5 Try.underlying3 (wrap8 rfl (by omega))) ?_
            refine l_y (v := .slice pt tl.length ct) (y_move) ?_
            refine l_y (v := .int .i64 ((tl.length : Nat) : Int)) (y_len (b := pt) (n := tl.length) (c := ct) rfl rfl el37) ?_
            refine l_y (v := .int .i64 ((kk : Nat) : Int)) (y_int (p := ((y : Nat) : Int)) (q := ((tl.length : Nat) : Int)) rfl rfl hrem) ?_
            refine l_y (v := .int .i64 ((kk : Nat) : Int)) (y_assign) ?_
            refine l_end ?_
            refine e_then ?_
            refine e_seq ?_
            refine e_reg rfl ?_
            refine l_y (v := .slice p8 tl.length c8) (y_move) ?_
            refine l_y (v := .int .i64 ((kk : Nat) : Int)) (y_move) ?_
            refine l_y (v := .pointer (some ⟨b8, kk, none⟩)) (y_indexB (o := 0) (j := ((kk : Nat) : Int)) (n := tl.length) (c := c8) (by rw [← hp8]; rfl) rfl el39 sz22 (Int.natCast_nonneg kk) (by omega) (by simp)) ?_
            refine l_y (v := .pointer (some ⟨a.a, 0, none⟩)) (y_loadB rfl ag22 hm8 (app_get (ptrs_get ha))) ?_
            refine l_c (e_call bd13 rfl (l := [.pointer (some ⟨a.a, 0, none⟩)]) rfl) (C.step (N := W.heap.size) (W := W) (Post := PostL W) (by omega) ha hr) ?_
            rintro e m' ⟨rfl, M3, tab3, tc3, la3, rfl, C3⟩
            obtain ⟨b16, cc16, rest16, hlb, h16, hm16, hl16, hc16⟩ := SlB.at C3.sl hpos
            have hp16 := (Value.slice.inj h16).1
            refine l_y (v := .int .i64 (if r = 0 then 6 else 0)) (y_assign) ?_
            refine l_end ?_
            refine e_then ?_
            refine e_seq ?_
            refine e_reg rfl ?_
            refine l_y (v := .int .i64 (if r = 0 then 6 else 0)) (y_move) ?_
            refine l_y (v := .bool b0) (y_int (p := (if r = 0 then (6 : Int) else 0)) (q := 0) rfl rfl hbA) ?_
            refine l_y (v := .slice p16 tl.length c16) (y_move) ?_
            refine l_y (v := .int .i64 ((kk : Nat) : Int)) (y_move) ?_
            refine l_y (v := .pointer (some ⟨b16, kk, none⟩)) (y_indexB (o := 0) (j := ((kk : Nat) : Int)) (n := tl.length) (c := c16) (by rw [← hp16]; rfl) rfl el37 sz5 (Int.natCast_nonneg kk) (by omega) (by simp)) ?_
            refine l_y (v := .int .u8 ((r : Nat) : Int)) (y_loadB rfl ag5 hm16 (app_get (u8s_get hr))) ?_
            refine l_y (v := .bool b0) (y_int (p := ((r : Nat) : Int)) (q := 0) rfl rfl hbB) ?_
            refine l_y (v := .bool true) (y_eql (r := true) rfl rfl rfl hbC) ?_
            refine l_y (v := .bool true) (y_assign) ?_
            refine l_end ?_
            refine e_then ?_
            refine e_seq ?_
            refine e_seq ?_
            refine e_reg rfl ?_
            refine l_y (v := .slice p16 tl.length c16) (y_move) ?_
            refine l_y (v := .int .i64 ((kk : Nat) : Int)) (y_move) ?_
            refine l_y (v := .pointer (some ⟨b16, kk, none⟩)) (y_indexB (o := 0) (j := ((kk : Nat) : Int)) (n := tl.length) (c := c16) (by rw [← hp16]; rfl) rfl el37 sz5 (Int.natCast_nonneg kk) (by omega) (by simp)) ?_
            refine l_y (v := .int .u8 ((r : Nat) : Int)) (y_loadB rfl ag5 hm16 (app_get (u8s_get hr))) ?_
            refine l_y (v := .bool b0) (y_int (p := ((r : Nat) : Int)) (q := 0) rfl rfl hbB) ?_
            refine l_end ?_
            refine e_then ?_
            refine e_if (t := b0) rfl (fun c6 => ?_) (fun c6 => ?_)
            · refine e_seq ?_
              have hr0 : 0 < r := by rw [hb0] at c6; simpa using c6
              refine e_reg rfl ?_
              refine l_y (v := .slice p16 tl.length c16) (y_move) ?_
              refine l_y (v := .int .i64 ((kk : Nat) : Int)) (y_move) ?_
              refine l_y (v := .pointer (some ⟨b16, kk, none⟩)) (y_indexB (o := 0) (j := ((kk : Nat) : Int)) (n := tl.length) (c := c16) (by rw [← hp16]; rfl) rfl el37 sz5 (Int.natCast_nonneg kk) (by omega) (by simp)) ?_
              refine l_y (v := .int .u8 ((r : Nat) : Int)) (y_loadB rfl ag5 hm16 (app_get (u8s_get hr))) ?_
              refine l_y (v := .int .u8 (((r - 1) : Nat) : Int)) (y_int (p := ((r : Nat) : Int)) (q := 1) rfl rfl (by have e := wrapu8 (x := r - 1) (by omega); have e2 : ((r : Nat) : Int) - 1 = ((r - 1 : Nat) : Int) := (by omega); exact congrArg (fun z => some (Value.int .u8 z)) ((congrArg IntKind.u8.wrap e2).trans e))) ?_
              refine l_y (v := .pointer (some ⟨b16, kk, none⟩)) (y_indexB (o := 0) (j := ((kk : Nat) : Int)) (n := tl.length) (c := c16) (by rw [← hp16]; rfl) rfl el37 sz5 (Int.natCast_nonneg kk) (by omega) (by simp)) ?_
              refine l_d (d_storeB (v := .int .u8 (((r - 1) : Nat) : Int)) (c' := (u8s (left.set kk (r - 1)) ++ rest16).toArray) rfl rfl sz5 hm16 rfl rfl (by simp [u8s, C.n2]; omega) (by simp only [Value.cells, splice]; rw [← u8s_set]; exact app_set (by simp [u8s, C.n2]; omega))) ?_
              have C5 := C3.wrote (st := Well (CL ba bw be tl (roW W) h3 roW_ro hro3) Try.prog kd W.heap.size W (PostL W) tab3) hlb hm16 (j := kk) (x := r - 1)
              rw [if_neg (by omega)] at C5
              have hm5 := Mem.hit (Mem.mk M3 (Well (CL ba bw be tl (roW W) h3 roW_ro hro3) Try.prog kd W.heap.size W (PostL W) tab3)) b16 (.cells (u8s (left.set kk (r - 1)) ++ rest16).toArray 5)
              have hr5 : (left.set kk (r - 1))[kk]? = some (r - 1) := List.getElem?_set_self (by rw [C.n2]; exact hkl)
              refine l_end ?_
              refine e_then ?_
              refine e_reg rfl ?_
              refine l_y (v := .int .u64 ((sum : Nat) : Int)) (y_move) ?_
              refine l_y (v := .int .u64 (((sum + 1) : Nat) : Int)) (y_int (p := ((sum : Nat) : Int)) (q := 1) rfl rfl (by have e := wrapu64 (x := sum + 1) (by omega); simp only [intOp]; exact congrArg (fun z => some (Value.int .u64 z)) e)) ?_
              refine l_y (v := .int .u64 (((sum + 1) : Nat) : Int)) (y_assign) ?_
              refine l_end ?_
              refine e_then ?_
              obtain ⟨b5, hb5⟩ : ∃ b5 : Bool, b5 = decide ((r - 1) = 0) := ⟨_, rfl⟩
              have hbE : intOp .eql .i64 (if (r - 1) = 0 then 1 else 0) 1 = some (.bool b5) := by rw [hb5]; by_cases z : (r - 1) = 0 <;> simp [intOp, z]
              have hbF : intOp .eql .u8 (((r - 1) : Nat) : Int) 0 = some (.bool b5) := by rw [hb5]; by_cases z : (r - 1) = 0 <;> simp [intOp, z] <;> omega
              have hbG : eqScalar Try.prog 4 (.bool b5) (.bool b5) = some true := by cases b5 <;> rfl
              have hen : (intsV (enOf (left.set kk (r - 1))))[kk]? = some (.int .i64 (if (r - 1) = 0 then 1 else 0)) := by rw [intsV_get (by simp [enOf, C.n2]; omega), en_get hr5]
              refine e_calm ?_
              refine e_draw (fun m => m be = some (.cells (intsV (enOf (left.set kk (r - 1)))) 3) ∧ m b16 = some (.cells (u8s (left.set kk (r - 1)) ++ rest16).toArray 5)) [(0, true), (1, true), (2, true), (4, true), (3, false), (5, true), (6, true), (7, true), (8, true), (9, true), (10, true), (11, true), (12, true), (13, true), (14, true), (15, true), (16, true), (17, true), (18, true), (19, true), (20, true)] mixed (by kernel_rfl) ⟨C5.mn.sh _ _ (cS_be h3 _), hm5⟩ (fun _ _ _ _ _ h => h.elim) ?_
              refine dr_m (v := .bool true) rfl rfl (fun m hm => y_move) ?_
              refine dr_m (v := .bool true) rfl rfl (fun m hm => y_move) ?_
              refine dr_gm (v := .pointer (some ⟨ba, 0, none⟩)) (b := true) rfl rfl rfl rfl rfl rfl (fun m hm => y_move) ?_
              refine dr_gm (v := .int .u64 ((sum + 1 : Nat) : Int)) (b := true) rfl rfl rfl rfl rfl rfl (fun m hm => y_move) ?_
              refine dr_gc (b := true) rfl rfl rfl rfl rfl rfl (e_call bd19 rfl (l := [.pointer (some ⟨ba, 0, none⟩), .int .i64 0]) rfl) C5.read ?_
              rintro e m' ⟨rfl, M6, tc6, la6, rfl, C6, hne6⟩
              refine ⟨⟨(hne6 be h3.n2.symm).trans (C5.mn.sh _ _ (cS_be h3 _)), (hne6 b16 (C5.ol b16 hlb).1).trans hm5⟩, ?_⟩
              refine dr_gm (v := .bool true) (b := true) rfl rfl rfl rfl rfl rfl (fun m hm => y_int (p := ((sum + 1 : Nat) : Int)) (q := ((sum + 1 : Nat) : Int)) rfl rfl (int_eq_self _)) ?_
              refine dr_m (v := .bool true) rfl rfl (fun m hm => y_pickT (t := true) rfl rfl rfl) ?_
              refine dr_m (v := .bool true) rfl rfl (fun m hm => y_move) ?_
              refine dr_gm (v := .slice (some ⟨be, 0, none⟩) tl.length tl.length) (b := true) rfl rfl rfl rfl rfl rfl (fun m hm => y_move) ?_
              refine dr_gm (v := .int .i64 ((kk : Nat) : Int)) (b := true) rfl rfl rfl rfl rfl rfl (fun m hm => y_move) ?_
              refine dr_gm (v := .pointer (some ⟨be, kk, none⟩)) (b := true) rfl rfl rfl rfl rfl rfl (fun m hm => y_indexB (o := 0) (j := ((kk : Nat) : Int)) (n := tl.length) (c := tl.length) rfl rfl el38 sz3 (Int.natCast_nonneg kk) (by omega) (by simp)) ?_
              refine dr_gm (v := .int .i64 (if (r - 1) = 0 then 1 else 0)) (b := true) rfl rfl rfl rfl rfl rfl (fun m hm => y_loadB rfl ag3 hm.1 hen) ?_
              refine dr_gm (v := .bool b5) (b := true) rfl rfl rfl rfl rfl rfl (fun m hm => y_int (p := (if (r - 1) = 0 then (1 : Int) else 0)) (q := 1) rfl rfl hbE) ?_
              refine dr_gm (v := .slice p16 tl.length c16) (b := true) rfl rfl rfl rfl rfl rfl (fun m hm => y_move) ?_
              refine dr_gm (v := .int .i64 ((kk : Nat) : Int)) (b := true) rfl rfl rfl rfl rfl rfl (fun m hm => y_move) ?_
              refine dr_gm (v := .pointer (some ⟨b16, kk, none⟩)) (b := true) rfl rfl rfl rfl rfl rfl (fun m hm => y_indexB (o := 0) (j := ((kk : Nat) : Int)) (n := tl.length) (c := c16) (by rw [← hp16]; rfl) rfl el37 sz5 (Int.natCast_nonneg kk) (by omega) (by simp)) ?_
              refine dr_gm (v := .int .u8 (((r - 1) : Nat) : Int)) (b := true) rfl rfl rfl rfl rfl rfl (fun m hm => y_loadB rfl ag5 hm.2 (app_get (u8s_get hr5))) ?_
              refine dr_gm (v := .bool b5) (b := true) rfl rfl rfl rfl rfl rfl (fun m hm => y_int (p := (((r - 1) : Nat) : Int)) (q := 0) rfl rfl hbF) ?_
              refine dr_gm (v := .bool true) (b := true) rfl rfl rfl rfl rfl rfl (fun m hm => y_eql (r := true) rfl rfl rfl hbG) ?_
              refine dr_m (v := .bool true) rfl rfl (fun m hm => y_pickT (t := true) rfl rfl rfl) ?_
              refine dr_m (v := .bool true) rfl rfl (fun m hm => y_assign) ?_
              refine dr_end ?_
              refine w_calm ?_
              refine w_block rfl ?_
              refine e_then ?_
              have hwrap : IntKind.i64.wrap (((k : Nat) : Int) + 1) = ((k + 1 : Nat) : Int) := wrap8 rfl (x := k + 1) (by omega)
              refine e_reg rfl ?_
              refine l_y (v := .int .i64 ((k : Nat) : Int)) (y_move) ?_
              refine l_y (v := .int .i64 ((k + 1 : Nat) : Int)) (y_int (p := ((k : Nat) : Int)) (q := 1) rfl rfl (by rw [← hwrap]; rfl)) ?_
              refine l_y (v := .int .i64 ((k + 1 : Nat) : Int)) (y_assign) ?_
              refine l_end ?_
              refine Sp.w_round (σ := B2) (s := ⟨k, sum, left, tc, la, tab2, M2⟩) (s' := ⟨k + 1, sum + 1, (left.set kk (r - 1)), tc6, la6, tab3, M6⟩) ?_ ?_ ?_ ?_
              · exact ⟨hlt, by dsimp only; omega, C6⟩
              · dsimp only; omega
              · rfl
              · exact fun _ => (live_cons rfl (live_cons rfl (live_cons rfl (live_cons rfl (live_cons rfl (live_cons rfl (live_cons rfl (live_cons rfl (live_cons rfl live_nil)))))))))
            · refine e_skip ?_
              refine e_then ?_
              have hr0 : r = 0 := by rw [hb0] at c6; simp at c6; omega
              subst hr0
              rw [show (0 : Nat) - 1 = 0 from rfl, set_same' hr] at C3
              have C5 := C3
              rw [if_pos rfl] at C5
              have hm5 := hm16
              have hr5 := hr
              obtain ⟨b5, hb5⟩ : ∃ b5 : Bool, b5 = decide (0 = 0) := ⟨_, rfl⟩
              have hbE : intOp .eql .i64 (if 0 = 0 then 1 else 0) 1 = some (.bool b5) := by rw [hb5]; by_cases z : 0 = 0 <;> simp [intOp, z]
              have hbF : intOp .eql .u8 ((0 : Nat) : Int) 0 = some (.bool b5) := by rw [hb5]; by_cases z : 0 = 0 <;> simp [intOp, z] <;> omega
              have hbG : eqScalar Try.prog 4 (.bool b5) (.bool b5) = some true := by cases b5 <;> rfl
              have hen : (intsV (enOf left))[kk]? = some (.int .i64 (if 0 = 0 then 1 else 0)) := by rw [intsV_get (by simp [enOf, C.n2]; omega), en_get hr5]
              refine e_calm ?_
              refine e_draw (fun m => m be = some (.cells (intsV (enOf left)) 3) ∧ m b16 = some (.cells (u8s left ++ rest16).toArray 5)) [(0, true), (1, true), (2, true), (4, true), (3, false), (5, true), (6, true), (7, true), (8, true), (9, true), (10, true), (11, true), (12, true), (13, true), (14, true), (15, true), (16, true), (17, true), (18, true), (19, true), (20, true)] mixed (by kernel_rfl) ⟨C5.mn.sh _ _ (cS_be h3 _), hm5⟩ (fun _ _ _ _ _ h => h.elim) ?_
              refine dr_m (v := .bool true) rfl rfl (fun m hm => y_move) ?_
              refine dr_m (v := .bool true) rfl rfl (fun m hm => y_move) ?_
              refine dr_gm (v := .pointer (some ⟨ba, 0, none⟩)) (b := true) rfl rfl rfl rfl rfl rfl (fun m hm => y_move) ?_
              refine dr_gm (v := .int .u64 ((sum : Nat) : Int)) (b := true) rfl rfl rfl rfl rfl rfl (fun m hm => y_move) ?_
              refine dr_gc (b := true) rfl rfl rfl rfl rfl rfl (e_call bd19 rfl (l := [.pointer (some ⟨ba, 0, none⟩), .int .i64 0]) rfl) C5.read ?_
              rintro e m' ⟨rfl, M6, tc6, la6, rfl, C6, hne6⟩
              refine ⟨⟨(hne6 be h3.n2.symm).trans (C5.mn.sh _ _ (cS_be h3 _)), (hne6 b16 (C5.ol b16 hlb).1).trans hm5⟩, ?_⟩
              refine dr_gm (v := .bool true) (b := true) rfl rfl rfl rfl rfl rfl (fun m hm => y_int (p := ((sum : Nat) : Int)) (q := ((sum : Nat) : Int)) rfl rfl (int_eq_self _)) ?_
              refine dr_m (v := .bool true) rfl rfl (fun m hm => y_pickT (t := true) rfl rfl rfl) ?_
              refine dr_m (v := .bool true) rfl rfl (fun m hm => y_move) ?_
              refine dr_gm (v := .slice (some ⟨be, 0, none⟩) tl.length tl.length) (b := true) rfl rfl rfl rfl rfl rfl (fun m hm => y_move) ?_
              refine dr_gm (v := .int .i64 ((kk : Nat) : Int)) (b := true) rfl rfl rfl rfl rfl rfl (fun m hm => y_move) ?_
              refine dr_gm (v := .pointer (some ⟨be, kk, none⟩)) (b := true) rfl rfl rfl rfl rfl rfl (fun m hm => y_indexB (o := 0) (j := ((kk : Nat) : Int)) (n := tl.length) (c := tl.length) rfl rfl el38 sz3 (Int.natCast_nonneg kk) (by omega) (by simp)) ?_
              refine dr_gm (v := .int .i64 (if 0 = 0 then 1 else 0)) (b := true) rfl rfl rfl rfl rfl rfl (fun m hm => y_loadB rfl ag3 hm.1 hen) ?_
              refine dr_gm (v := .bool b5) (b := true) rfl rfl rfl rfl rfl rfl (fun m hm => y_int (p := (if 0 = 0 then (1 : Int) else 0)) (q := 1) rfl rfl hbE) ?_
              refine dr_gm (v := .slice p16 tl.length c16) (b := true) rfl rfl rfl rfl rfl rfl (fun m hm => y_move) ?_
              refine dr_gm (v := .int .i64 ((kk : Nat) : Int)) (b := true) rfl rfl rfl rfl rfl rfl (fun m hm => y_move) ?_
              refine dr_gm (v := .pointer (some ⟨b16, kk, none⟩)) (b := true) rfl rfl rfl rfl rfl rfl (fun m hm => y_indexB (o := 0) (j := ((kk : Nat) : Int)) (n := tl.length) (c := c16) (by rw [← hp16]; rfl) rfl el37 sz5 (Int.natCast_nonneg kk) (by omega) (by simp)) ?_
              refine dr_gm (v := .int .u8 ((0 : Nat) : Int)) (b := true) rfl rfl rfl rfl rfl rfl (fun m hm => y_loadB rfl ag5 hm.2 (app_get (u8s_get hr5))) ?_
              refine dr_gm (v := .bool b5) (b := true) rfl rfl rfl rfl rfl rfl (fun m hm => y_int (p := ((0 : Nat) : Int)) (q := 0) rfl rfl hbF) ?_
              refine dr_gm (v := .bool true) (b := true) rfl rfl rfl rfl rfl rfl (fun m hm => y_eql (r := true) rfl rfl rfl hbG) ?_
              refine dr_m (v := .bool true) rfl rfl (fun m hm => y_pickT (t := true) rfl rfl rfl) ?_
              refine dr_m (v := .bool true) rfl rfl (fun m hm => y_assign) ?_
              refine dr_end ?_
              refine w_calm ?_
              refine w_block rfl ?_
              refine e_then ?_
              have hwrap : IntKind.i64.wrap (((k : Nat) : Int) + 1) = ((k + 1 : Nat) : Int) := wrap8 rfl (x := k + 1) (by omega)
              refine e_reg rfl ?_
              refine l_y (v := .int .i64 ((k : Nat) : Int)) (y_move) ?_
              refine l_y (v := .int .i64 ((k + 1 : Nat) : Int)) (y_int (p := ((k : Nat) : Int)) (q := 1) rfl rfl (by rw [← hwrap]; rfl)) ?_
              refine l_y (v := .int .i64 ((k + 1 : Nat) : Int)) (y_assign) ?_
              refine l_end ?_
              refine Sp.w_round (σ := B2) (s := ⟨k, sum, left, tc, la, tab2, M2⟩) (s' := ⟨k + 1, sum, left, tc6, la6, tab3, M6⟩) ?_ ?_ ?_ ?_
              · exact ⟨hlt, by dsimp only; omega, C6⟩
              · dsimp only; omega
              · rfl
              · exact fun _ => (live_cons rfl (live_cons rfl (live_cons rfl (live_cons rfl (live_cons rfl (live_cons rfl (live_cons rfl (live_cons rfl (live_cons rfl live_nil)))))))))
          · refine g_x (b := decide (((tl.length : Nat) : Int) > 0)) rfl rfl rfl c5 ?_
            refine l_y (v := .bool false) (y_pickF (t := decide (((tl.length : Nat) : Int) > 0)) rfl c5 rfl) ?_
            refine l_end ?_
            refine e_then ?_
            refine e_ifF (t := false) rfl rfl ?_
            refine e_exit ?_
            refine w_then rfl ?_
            refine w_then rfl ?_
            refine w_exit ?_
            refine r_way ?_
            repeat (refine r_seq ?_)
            refine r_code (by decide) ?_
            refine e_reg rfl ?_
            refine l_y (v := .int .i64 0) (y_assign) ?_
            refine l_end ?_
            refine r_way ?_
            repeat (refine r_seq ?_)
            refine r_code (by decide) ?_
            refine e_block ?_
            refine e_loop (σ := B2) (live := fun s => [(5, .pointer (some ⟨ba, 0, none⟩)), (7, .slice (some ⟨be, 0, none⟩) tl.length tl.length), (8, .slice p8 tl.length c8), (9, .bool true), (15, .int .u64 ((sum : Nat) : Int)), (20, .int .i64 ((s.k : Nat) : Int))]) (mem := fun s => ⟨s.M, Well (CL ba bw be tl (roW W) h3 roW_ro hro3) Try.prog kd W.heap.size W (PostL W) s.tab⟩) (I := fun s => s.k ≤ tl.length ∧ (∀ j, j < s.k → s.left[j]? = some 0) ∧ Co ba bw be tl (roW W) h3 roW_ro hro3 gs (.slice p8 tl.length c8) ab (.slice p16 tl.length c16) lb left s.left sum s.tc s.la s.tab s.M) (μ := fun s => tl.length - s.k) ⟨0, sum, left, tc, la, tab2, M2⟩ ⟨Nat.zero_le _, fun j hj => absurd hj (Nat.not_lt_zero j), C⟩ rfl (live_cons rfl (live_cons rfl (live_cons rfl (live_cons rfl (live_cons rfl (live_cons rfl live_nil)))))) ?_
            rintro ⟨k4, _, left3, tc, la, tab3, M3⟩ base3 ⟨hk3, hz, C3⟩
            dsimp only at hk3 hz C3 ⊢
            refine e_seq ?_
            refine e_seq ?_
            refine e_reg rfl ?_
            refine l_y (v := .int .i64 ((k4 : Nat) : Int)) (y_move) ?_
            refine l_y (v := .slice p8 tl.length c8) (y_move) ?_
            refine l_y (v := .int .i64 ((tl.length : Nat) : Int)) (y_len (b := p8) (n := tl.length) (c := c8) rfl rfl el39) ?_
            refine l_y (v := .bool (decide (((k4 : Nat) : Int) < ((tl.length : Nat) : Int)))) (y_int (p := ((k4 : Nat) : Int)) (q := ((tl.length : Nat) : Int)) rfl rfl rfl) ?_
            refine l_end ?_
            refine e_then ?_
            refine e_if (t := decide (((k4 : Nat) : Int) < ((tl.length : Nat) : Int))) rfl (fun c7 => ?_) (fun c7 => ?_)
            · refine e_skip ?_
              refine e_then ?_
              refine e_seq ?_
              refine e_block ?_
              refine e_seq ?_
              have hlt : k4 < tl.length := by simp at c7; omega
              obtain ⟨a, ha⟩ : ∃ a, gs[k4]? = some a := ⟨_, List.getElem?_eq_getElem (by rw [C3.n1]; exact hlt)⟩
              obtain ⟨r, hr⟩ : ∃ r, left3[k4]? = some r := ⟨_, List.getElem?_eq_getElem (by rw [C3.n2]; exact hlt)⟩
              obtain ⟨b8, cc8, rest8, hab, h8, hm8, hl8, hc8⟩ := SlB.at C3.sa (by omega)
              have hp8 := (Value.slice.inj h8).1
              have hr5 : (left3.set k4 0)[k4]? = some 0 := List.getElem?_set_self (by rw [C3.n2]; exact hlt)
              refine e_reg rfl ?_
              refine l_y (v := .slice p8 tl.length c8) (y_move) ?_
              refine l_y (v := .int .i64 ((k4 : Nat) : Int)) (y_move) ?_
              refine l_y (v := .pointer (some ⟨b8, k4, none⟩)) (y_indexB (o := 0) (j := ((k4 : Nat) : Int)) (n := tl.length) (c := c8) (by rw [← hp8]; rfl) rfl el39 sz22 (Int.natCast_nonneg k4) (by omega) (by simp)) ?_
              refine l_y (v := .pointer (some ⟨a.a, 0, none⟩)) (y_loadB rfl ag22 hm8 (app_get (ptrs_get ha))) ?_
              refine l_c (e_call bd9 rfl (l := [.pointer (some ⟨a.a, 0, none⟩)]) rfl) (C3.stop (N := W.heap.size) (W := W) (Post := PostL W) ha hr) ?_
              rintro e m' ⟨rfl, M4, tab4, rfl, C4⟩
              obtain ⟨b9, cc9, rest9, hab9, h9, hm9, hl9, hc9⟩ := SlB.at C4.sa (by omega)
              have hp9 := (Value.slice.inj h9).1
              refine l_end ?_
              refine e_then ?_
              refine e_seq ?_
              refine e_reg rfl ?_
              refine l_y (v := .slice p8 tl.length c8) (y_move) ?_
              refine l_y (v := .int .i64 ((k4 : Nat) : Int)) (y_move) ?_
              refine l_y (v := .pointer (some ⟨b9, k4, none⟩)) (y_indexB (o := 0) (j := ((k4 : Nat) : Int)) (n := tl.length) (c := c8) (by rw [← hp9]; rfl) rfl el39 sz22 (Int.natCast_nonneg k4) (by omega) (by simp)) ?_
              refine l_y (v := .pointer (some ⟨a.a, 0, none⟩)) (y_loadB rfl ag22 hm9 (app_get (ptrs_get ha))) ?_
              refine l_c (e_call bd9 rfl (l := [.pointer (some ⟨a.a, 0, none⟩)]) rfl) (C4.stop (N := W.heap.size) (W := W) (Post := PostL W) ha hr5) ?_
              rintro e m' ⟨rfl, M5, tab5, rfl, C5⟩
              rw [set_same' hr5] at C5
              refine l_end ?_
              refine e_then ?_
              refine e_reg rfl ?_
              refine l_y (v := .bool true) (y_move) ?_
              refine l_y (v := .bool true) (y_move) ?_
              refine g_y (v := .slice (some ⟨be, 0, none⟩) tl.length tl.length) (b := true) rfl rfl rfl rfl (y_move) ?_
              refine g_y (v := .int .i64 ((k4 : Nat) : Int)) (b := true) rfl rfl rfl rfl (y_move) ?_
              refine g_y (v := .pointer (some ⟨be, k4, none⟩)) (b := true) rfl rfl rfl rfl (y_indexB (o := 0) (j := ((k4 : Nat) : Int)) (n := tl.length) (c := tl.length) rfl rfl el38 sz3 (Int.natCast_nonneg k4) (by omega) (by simp)) ?_
              refine g_y (v := .int .i64 1) (b := true) rfl rfl rfl rfl (y_loadB rfl ag3 (C5.mn.sh _ _ (cS_be h3 _)) (by rw [intsV_get (by simp [enOf, C3.n2]; omega), en_get hr5]; rfl)) ?_
              refine g_y (v := .bool true) (b := true) rfl rfl rfl rfl (y_int (p := 1) (q := 1) rfl rfl rfl) ?_
              refine l_y (v := .bool true) (y_pickT (t := true) rfl rfl rfl) ?_
              refine l_y (v := .bool true) (y_assign) ?_
              refine l_end ?_
              refine w_block rfl ?_
              refine e_then ?_
              have hwrap : IntKind.i64.wrap (((k4 : Nat) : Int) + 1) = ((k4 + 1 : Nat) : Int) := wrap8 rfl (x := k4 + 1) (by omega)
              refine e_reg rfl ?_
              refine l_y (v := .int .i64 ((k4 : Nat) : Int)) (y_move) ?_
              refine l_y (v := .int .i64 ((k4 + 1 : Nat) : Int)) (y_int (p := ((k4 : Nat) : Int)) (q := 1) rfl rfl (by rw [← hwrap]; rfl)) ?_
              refine l_y (v := .int .i64 ((k4 + 1 : Nat) : Int)) (y_assign) ?_
              refine l_end ?_
              refine Sp.w_round (σ := B2) (s := ⟨k4, sum, left3, tc, la, tab3, M3⟩) (s' := ⟨k4 + 1, sum, left3.set k4 0, tc, la, tab5, M5⟩) ?_ ?_ ?_ ?_
              · refine ⟨hlt, fun j hj => ?_, C5⟩
                by_cases e : k4 = j
                · subst e; exact hr5
                · dsimp only; rw [List.getElem?_set_ne e]; exact hz j (by dsimp only at hj; omega)
              · dsimp only; omega
              · rfl
              · exact fun _ => (live_cons rfl (live_cons rfl (live_cons rfl (live_cons rfl (live_cons rfl (live_cons rfl live_nil))))))
            · refine e_exit ?_
              refine w_then rfl ?_
              refine w_then rfl ?_
              refine w_exit ?_
              refine r_way ?_
              repeat (refine r_seq ?_)
              refine r_code (by decide) ?_
              have hke : k4 = tl.length := by simp at c7; omega
              subst hke
              have hfin : tab3 = fun _ => none := C3.mn.fin fun s hs => by
                obtain ⟨j, hj, rfl⟩ := List.getElem_of_mem hs
                have hj2 : j < left3.length := by exact Nat.lt_of_lt_of_eq hj (stsFrom_len left3 0)
                have e := stsOf_get left3 j
                rw [hz j (by rw [C3.n2] at hj2; exact hj2)] at e
                exact Option.some.inj ((List.getElem?_eq_getElem hj).symm.trans e)
              subst hfin
              refine e_reg rfl ?_
              refine l_y (v := .bool true) (y_move) ?_
              refine l_y (v := .bool true) (y_move) ?_
              refine g_y (v := .pointer (some ⟨ba, 0, none⟩)) (b := true) rfl rfl rfl rfl (y_move) ?_
              refine g_c (b := true) rfl rfl rfl rfl (e_call bd19 rfl (l := [.pointer (some ⟨ba, 0, none⟩), .int .i64 0]) rfl) C3.read ?_
              rintro e m' ⟨rfl, M6, tc6, la6, rfl, C6, hne6⟩
              refine g_y (v := .int .u64 ((sum : Nat) : Int)) (b := true) rfl rfl rfl rfl (y_move) ?_
              refine g_y (v := .bool true) (b := true) rfl rfl rfl rfl (y_int (p := ((sum : Nat) : Int)) (q := ((sum : Nat) : Int)) rfl rfl (int_eq_self _)) ?_
              refine l_y (v := .bool true) (y_pickT (t := true) rfl rfl rfl) ?_
              refine l_y (v := .bool true) (y_move) ?_
              refine g_c (b := true) rfl rfl rfl rfl (e_call bd15 rfl (l := []) rfl) (c_wakes (L := (CL ba bw be tl (roW W) h3 roW_ro hro3)) (N := W.heap.size) (W := W) (Post := PostL W) (M := M6) C6.mn.ro) ?_
              rintro e m' ⟨hst, rfl⟩
              refine l_y (v := .bool true) (y_pickT (t := true) rfl rfl rfl) ?_
              refine l_y (v := .bool true) (y_assign) ?_
              refine l_end ?_
              refine r_way ?_
              repeat (refine r_seq ?_)
              refine r_code (by decide) ?_
              refine e_ret ?_
              exact law_way Try.func4 rfl (by kernel_rfl) (fun w hw => ⟨rfl, hw⟩) rfl hst
        · refine g_x (b := decide (((k : Nat) : Int) < ((ol.length : Nat) : Int))) rfl rfl rfl c4 ?_
          refine g_x (b := decide (((k : Nat) : Int) < ((ol.length : Nat) : Int))) rfl rfl rfl c4 ?_
          refine g_x (b := decide (((k : Nat) : Int) < ((ol.length : Nat) : Int))) rfl rfl rfl c4 ?_
          refine l_y (v := .bool false) (y_pickF (t := decide (((k : Nat) : Int) < ((ol.length : Nat) : Int))) rfl c4 rfl) ?_
          refine l_y (v := .bool false) (y_move) ?_
          refine g_x (b := false) rfl rfl rfl rfl ?_
          refine l_y (v := .bool false) (y_pickF (t := false) rfl rfl rfl) ?_
          refine l_end ?_
          refine e_then ?_
          refine e_ifF (t := false) rfl rfl ?_
          refine e_exit ?_
          refine w_then rfl ?_
          refine w_then rfl ?_
          refine w_exit ?_
          refine r_way ?_
          repeat (refine r_seq ?_)
          refine r_code (by decide) ?_
          refine e_reg rfl ?_
          refine l_y (v := .int .i64 0) (y_assign) ?_
          refine l_end ?_
          refine r_way ?_
          repeat (refine r_seq ?_)
          refine r_code (by decide) ?_
          refine e_block ?_
          refine e_loop (σ := B2) (live := fun s => [(5, .pointer (some ⟨ba, 0, none⟩)), (7, .slice (some ⟨be, 0, none⟩) tl.length tl.length), (8, .slice p8 tl.length c8), (9, .bool true), (15, .int .u64 ((sum : Nat) : Int)), (20, .int .i64 ((s.k : Nat) : Int))]) (mem := fun s => ⟨s.M, Well (CL ba bw be tl (roW W) h3 roW_ro hro3) Try.prog kd W.heap.size W (PostL W) s.tab⟩) (I := fun s => s.k ≤ tl.length ∧ (∀ j, j < s.k → s.left[j]? = some 0) ∧ Co ba bw be tl (roW W) h3 roW_ro hro3 gs (.slice p8 tl.length c8) ab (.slice p16 tl.length c16) lb left s.left sum s.tc s.la s.tab s.M) (μ := fun s => tl.length - s.k) ⟨0, sum, left, tc, la, tab2, M2⟩ ⟨Nat.zero_le _, fun j hj => absurd hj (Nat.not_lt_zero j), C⟩ rfl (live_cons rfl (live_cons rfl (live_cons rfl (live_cons rfl (live_cons rfl (live_cons rfl live_nil)))))) ?_
          rintro ⟨k4, _, left3, tc, la, tab3, M3⟩ base3 ⟨hk3, hz, C3⟩
          dsimp only at hk3 hz C3 ⊢
          refine e_seq ?_
          refine e_seq ?_
          refine e_reg rfl ?_
          refine l_y (v := .int .i64 ((k4 : Nat) : Int)) (y_move) ?_
          refine l_y (v := .slice p8 tl.length c8) (y_move) ?_
          refine l_y (v := .int .i64 ((tl.length : Nat) : Int)) (y_len (b := p8) (n := tl.length) (c := c8) rfl rfl el39) ?_
          refine l_y (v := .bool (decide (((k4 : Nat) : Int) < ((tl.length : Nat) : Int)))) (y_int (p := ((k4 : Nat) : Int)) (q := ((tl.length : Nat) : Int)) rfl rfl rfl) ?_
          refine l_end ?_
          refine e_then ?_
          refine e_if (t := decide (((k4 : Nat) : Int) < ((tl.length : Nat) : Int))) rfl (fun c7 => ?_) (fun c7 => ?_)
          · refine e_skip ?_
            refine e_then ?_
            refine e_seq ?_
            refine e_block ?_
            refine e_seq ?_
            have hlt : k4 < tl.length := by simp at c7; omega
            obtain ⟨a, ha⟩ : ∃ a, gs[k4]? = some a := ⟨_, List.getElem?_eq_getElem (by rw [C3.n1]; exact hlt)⟩
            obtain ⟨r, hr⟩ : ∃ r, left3[k4]? = some r := ⟨_, List.getElem?_eq_getElem (by rw [C3.n2]; exact hlt)⟩
            obtain ⟨b8, cc8, rest8, hab, h8, hm8, hl8, hc8⟩ := SlB.at C3.sa (by omega)
            have hp8 := (Value.slice.inj h8).1
            have hr5 : (left3.set k4 0)[k4]? = some 0 := List.getElem?_set_self (by rw [C3.n2]; exact hlt)
            refine e_reg rfl ?_
            refine l_y (v := .slice p8 tl.length c8) (y_move) ?_
            refine l_y (v := .int .i64 ((k4 : Nat) : Int)) (y_move) ?_
            refine l_y (v := .pointer (some ⟨b8, k4, none⟩)) (y_indexB (o := 0) (j := ((k4 : Nat) : Int)) (n := tl.length) (c := c8) (by rw [← hp8]; rfl) rfl el39 sz22 (Int.natCast_nonneg k4) (by omega) (by simp)) ?_
            refine l_y (v := .pointer (some ⟨a.a, 0, none⟩)) (y_loadB rfl ag22 hm8 (app_get (ptrs_get ha))) ?_
            refine l_c (e_call bd9 rfl (l := [.pointer (some ⟨a.a, 0, none⟩)]) rfl) (C3.stop (N := W.heap.size) (W := W) (Post := PostL W) ha hr) ?_
            rintro e m' ⟨rfl, M4, tab4, rfl, C4⟩
            obtain ⟨b9, cc9, rest9, hab9, h9, hm9, hl9, hc9⟩ := SlB.at C4.sa (by omega)
            have hp9 := (Value.slice.inj h9).1
            refine l_end ?_
            refine e_then ?_
            refine e_seq ?_
            refine e_reg rfl ?_
            refine l_y (v := .slice p8 tl.length c8) (y_move) ?_
            refine l_y (v := .int .i64 ((k4 : Nat) : Int)) (y_move) ?_
            refine l_y (v := .pointer (some ⟨b9, k4, none⟩)) (y_indexB (o := 0) (j := ((k4 : Nat) : Int)) (n := tl.length) (c := c8) (by rw [← hp9]; rfl) rfl el39 sz22 (Int.natCast_nonneg k4) (by omega) (by simp)) ?_
            refine l_y (v := .pointer (some ⟨a.a, 0, none⟩)) (y_loadB rfl ag22 hm9 (app_get (ptrs_get ha))) ?_
            refine l_c (e_call bd9 rfl (l := [.pointer (some ⟨a.a, 0, none⟩)]) rfl) (C4.stop (N := W.heap.size) (W := W) (Post := PostL W) ha hr5) ?_
            rintro e m' ⟨rfl, M5, tab5, rfl, C5⟩
            rw [set_same' hr5] at C5
            refine l_end ?_
            refine e_then ?_
            refine e_reg rfl ?_
            refine l_y (v := .bool true) (y_move) ?_
            refine l_y (v := .bool true) (y_move) ?_
            refine g_y (v := .slice (some ⟨be, 0, none⟩) tl.length tl.length) (b := true) rfl rfl rfl rfl (y_move) ?_
            refine g_y (v := .int .i64 ((k4 : Nat) : Int)) (b := true) rfl rfl rfl rfl (y_move) ?_
            refine g_y (v := .pointer (some ⟨be, k4, none⟩)) (b := true) rfl rfl rfl rfl (y_indexB (o := 0) (j := ((k4 : Nat) : Int)) (n := tl.length) (c := tl.length) rfl rfl el38 sz3 (Int.natCast_nonneg k4) (by omega) (by simp)) ?_
            refine g_y (v := .int .i64 1) (b := true) rfl rfl rfl rfl (y_loadB rfl ag3 (C5.mn.sh _ _ (cS_be h3 _)) (by rw [intsV_get (by simp [enOf, C3.n2]; omega), en_get hr5]; rfl)) ?_
            refine g_y (v := .bool true) (b := true) rfl rfl rfl rfl (y_int (p := 1) (q := 1) rfl rfl rfl) ?_
            refine l_y (v := .bool true) (y_pickT (t := true) rfl rfl rfl) ?_
            refine l_y (v := .bool true) (y_assign) ?_
            refine l_end ?_
            refine w_block rfl ?_
            refine e_then ?_
            have hwrap : IntKind.i64.wrap (((k4 : Nat) : Int) + 1) = ((k4 + 1 : Nat) : Int) := wrap8 rfl (x := k4 + 1) (by omega)
            refine e_reg rfl ?_
            refine l_y (v := .int .i64 ((k4 : Nat) : Int)) (y_move) ?_
            refine l_y (v := .int .i64 ((k4 + 1 : Nat) : Int)) (y_int (p := ((k4 : Nat) : Int)) (q := 1) rfl rfl (by rw [← hwrap]; rfl)) ?_
            refine l_y (v := .int .i64 ((k4 + 1 : Nat) : Int)) (y_assign) ?_
            refine l_end ?_
            refine Sp.w_round (σ := B2) (s := ⟨k4, sum, left3, tc, la, tab3, M3⟩) (s' := ⟨k4 + 1, sum, left3.set k4 0, tc, la, tab5, M5⟩) ?_ ?_ ?_ ?_
            · refine ⟨hlt, fun j hj => ?_, C5⟩
              by_cases e : k4 = j
              · subst e; exact hr5
              · dsimp only; rw [List.getElem?_set_ne e]; exact hz j (by dsimp only at hj; omega)
            · dsimp only; omega
            · rfl
            · exact fun _ => (live_cons rfl (live_cons rfl (live_cons rfl (live_cons rfl (live_cons rfl (live_cons rfl live_nil))))))
          · refine e_exit ?_
            refine w_then rfl ?_
            refine w_then rfl ?_
            refine w_exit ?_
            refine r_way ?_
            repeat (refine r_seq ?_)
            refine r_code (by decide) ?_
            have hke : k4 = tl.length := by simp at c7; omega
            subst hke
            have hfin : tab3 = fun _ => none := C3.mn.fin fun s hs => by
              obtain ⟨j, hj, rfl⟩ := List.getElem_of_mem hs
              have hj2 : j < left3.length := by exact Nat.lt_of_lt_of_eq hj (stsFrom_len left3 0)
              have e := stsOf_get left3 j
              rw [hz j (by rw [C3.n2] at hj2; exact hj2)] at e
              exact Option.some.inj ((List.getElem?_eq_getElem hj).symm.trans e)
            subst hfin
            refine e_reg rfl ?_
            refine l_y (v := .bool true) (y_move) ?_
            refine l_y (v := .bool true) (y_move) ?_
            refine g_y (v := .pointer (some ⟨ba, 0, none⟩)) (b := true) rfl rfl rfl rfl (y_move) ?_
            refine g_c (b := true) rfl rfl rfl rfl (e_call bd19 rfl (l := [.pointer (some ⟨ba, 0, none⟩), .int .i64 0]) rfl) C3.read ?_
            rintro e m' ⟨rfl, M6, tc6, la6, rfl, C6, hne6⟩
            refine g_y (v := .int .u64 ((sum : Nat) : Int)) (b := true) rfl rfl rfl rfl (y_move) ?_
            refine g_y (v := .bool true) (b := true) rfl rfl rfl rfl (y_int (p := ((sum : Nat) : Int)) (q := ((sum : Nat) : Int)) rfl rfl (int_eq_self _)) ?_
            refine l_y (v := .bool true) (y_pickT (t := true) rfl rfl rfl) ?_
            refine l_y (v := .bool true) (y_move) ?_
            refine g_c (b := true) rfl rfl rfl rfl (e_call bd15 rfl (l := []) rfl) (c_wakes (L := (CL ba bw be tl (roW W) h3 roW_ro hro3)) (N := W.heap.size) (W := W) (Post := PostL W) (M := M6) C6.mn.ro) ?_
            rintro e m' ⟨hst, rfl⟩
            refine l_y (v := .bool true) (y_pickT (t := true) rfl rfl rfl) ?_
            refine l_y (v := .bool true) (y_assign) ?_
            refine l_end ?_
            refine r_way ?_
            repeat (refine r_seq ?_)
            refine r_code (by decide) ?_
            refine e_ret ?_
            exact law_way Try.func4 rfl (by kernel_rfl) (fun w hw => ⟨rfl, hw⟩) rfl hst
end Go.Proofs.Ytpgooljdodijlaa
