/-
  What is proved: for every input, demesnelaw12.AgentPlays returns true, without a race, on every schedule (the walk; printed by a program). No condition.
-/
import Derived.Test.YtpgooljdodijlaaCZR
namespace Go.Proofs.Ytpgooljdodijlaa
open Go Go.Sp Go.Conc Go.RowKit
attribute [local irreducible] Code.wps OpsS OpsL Oper.wps Sem.wpm CallM RunM
set_option linter.unusedSimpArgs false
set_option linter.unusedVariables false
theorem bd9 : bodied Try.prog 9 = true := by kernel_rfl
theorem by22 : byOfS Try.prog 22 = some 8 := by kernel_rfl
theorem zr22 : zeroOf Try.prog 22 = some (.pointer none) := by kernel_rfl
theorem el39 : elemOfS Try.prog 39 = some 22 := by kernel_rfl
theorem el46 : elemOfS Try.prog 46 = some 52 := by kernel_rfl
theorem by52 : byOfS Try.prog 52 = some 40 := by kernel_rfl
theorem pl52 : plOf Try.prog 52 = some [(0, 1), (1, 1), (2, 1)] := by kernel_rfl
set_option maxRecDepth 20000 in
set_option maxHeartbeats 4000000 in
set_option pp.maxSteps 1500 in
theorem plays_run (W : World) (nw : Nat) (rs : List Rw) (ol : List Nat) (pl po : Option Addr) (cl co : Nat) (hnw : nw < 256) (hrs : InRows W pl rs) (hol : InU8 W po ol) : EndsW Try.prog (PostL W) (solo (G (Frame.enter Try.prog 5 #[.int .u8 ((nw : Nat) : Int), .slice pl rs.length cl, .slice po ol.length co] .normal) []) W) #[] := by
  refine law_ends (L := roL (roW W) roW_ro) (roW_kr W) (r_enter (args := [.int .u8 ((nw : Nat) : Int), .slice pl rs.length cl, .slice po ol.length co]) Try.func5 rfl rfl rfl ?_)
  repeat (refine r_seq ?_)
  refine r_code (by decide) ?_
  refine e_reg rfl ?_
  refine l_y (v := .bool false) (y_assign) ?_
  refine l_end ?_
  refine r_way ?_
  repeat (refine r_seq ?_)
  refine r_code (by decide) ?_
  refine e_reg rfl ?_
  refine l_y (v := .slice pl rs.length cl) (y_move) ?_
  refine l_y (v := .slice po ol.length co) (y_move) ?_
  refine l_c (e_call bd20 rfl (l := [.slice pl rs.length cl, .slice po ol.length co]) rfl) (c_great W rs pl po cl ol.length co _ hrs (fun b o h => h)) ?_
  rintro e m' ⟨gr, rfl, rfl, hgr⟩
  refine l_y (v := .bool gr) (y_move) ?_
  rcases Bool.eq_false_or_eq_true gr with c1 | c1
  · refine g_x (b := gr) rfl rfl rfl c1 ?_
    refine g_x (b := gr) rfl rfl rfl c1 ?_
    refine l_y (v := .bool true) (y_pickT (t := gr) rfl c1 rfl) ?_
    refine l_y (v := .bool true) (y_move) ?_
    refine g_x (b := true) rfl rfl rfl rfl ?_
    refine g_x (b := true) rfl rfl rfl rfl ?_
    refine l_y (v := .bool true) (y_pickT (t := true) rfl rfl rfl) ?_
    refine l_end ?_
    refine r_way ?_
    repeat (refine r_seq ?_)
    refine r_code (by decide) ?_
    refine e_ifT (t := true) rfl rfl ?_
    refine e_seq ?_
    refine e_reg rfl ?_
    refine l_c (e_call bd15 rfl (l := []) rfl) (c_wakes (L := roL (roW W) roW_ro) (N := W.heap.size) (W := W) (Post := PostL W) (M := roW W) (fun b o h => h)) ?_
    rintro e m' ⟨hst, rfl⟩
    refine l_y (v := .bool true) (y_assign) ?_
    refine l_end ?_
    refine e_then ?_
    refine e_ret ?_
    exact law_way Try.func5 rfl (by kernel_rfl) (fun w hw => ⟨rfl, hw⟩) rfl hst
  · refine g_y (v := .int .u8 ((nw : Nat) : Int)) (b := gr) rfl rfl rfl c1 (y_move) ?_
    refine g_y (v := .bool (decide (((nw : Nat) : Int) < 1))) (b := gr) rfl rfl rfl c1 (y_int (p := ((nw : Nat) : Int)) (q := 1) rfl rfl rfl) ?_
    refine l_y (v := .bool (decide (((nw : Nat) : Int) < 1))) (y_pickF (t := gr) rfl c1 rfl) ?_
    refine l_y (v := .bool (decide (((nw : Nat) : Int) < 1))) (y_move) ?_
    rcases Bool.eq_false_or_eq_true (decide (((nw : Nat) : Int) < 1)) with c2 | c2
    · refine g_x (b := decide (((nw : Nat) : Int) < 1)) rfl rfl rfl c2 ?_
      refine g_x (b := decide (((nw : Nat) : Int) < 1)) rfl rfl rfl c2 ?_
      refine l_y (v := .bool true) (y_pickT (t := decide (((nw : Nat) : Int) < 1)) rfl c2 rfl) ?_
      refine l_end ?_
      refine r_way ?_
      repeat (refine r_seq ?_)
      refine r_code (by decide) ?_
      refine e_ifT (t := true) rfl rfl ?_
      refine e_seq ?_
      refine e_reg rfl ?_
      refine l_c (e_call bd15 rfl (l := []) rfl) (c_wakes (L := roL (roW W) roW_ro) (N := W.heap.size) (W := W) (Post := PostL W) (M := roW W) (fun b o h => h)) ?_
      rintro e m' ⟨hst, rfl⟩
      refine l_y (v := .bool true) (y_assign) ?_
      refine l_end ?_
      refine e_then ?_
      refine e_ret ?_
      exact law_way Try.func5 rfl (by kernel_rfl) (fun w hw => ⟨rfl, hw⟩) rfl hst
    · refine g_y (v := .int .u8 ((nw : Nat) : Int)) (b := decide (((nw : Nat) : Int) < 1)) rfl rfl rfl c2 (y_move) ?_
      refine g_y (v := .bool (decide (((nw : Nat) : Int) > 20))) (b := decide (((nw : Nat) : Int) < 1)) rfl rfl rfl c2 (y_int (p := ((nw : Nat) : Int)) (q := 20) rfl rfl rfl) ?_
      refine l_y (v := .bool (decide (((nw : Nat) : Int) > 20))) (y_pickF (t := decide (((nw : Nat) : Int) < 1)) rfl c2 rfl) ?_
      refine l_end ?_
      refine r_way ?_
      repeat (refine r_seq ?_)
      refine r_code (by decide) ?_
      refine e_if (t := decide (((nw : Nat) : Int) > 20)) rfl (fun c3 => ?_) (fun c3 => ?_)
      · refine e_seq ?_
        refine e_reg rfl ?_
        refine l_c (e_call bd15 rfl (l := []) rfl) (c_wakes (L := roL (roW W) roW_ro) (N := W.heap.size) (W := W) (Post := PostL W) (M := roW W) (fun b o h => h)) ?_
        rintro e m' ⟨hst, rfl⟩
        refine l_y (v := .bool true) (y_assign) ?_
        refine l_end ?_
        refine e_then ?_
        refine e_ret ?_
        exact law_way Try.func5 rfl (by kernel_rfl) (fun w hw => ⟨rfl, hw⟩) rfl hst
      · refine e_skip ?_
        refine r_way ?_
        repeat (refine r_seq ?_)
        refine r_code (by decide) ?_
        have hw1 : 1 ≤ nw := by simp at c2; omega
        have hw2 : nw ≤ 20 := by simp at c3; omega
        obtain ⟨hl5, ho150, hr20⟩ := hgr c1
        refine e_reg rfl ?_
        refine l_y (v := .int .u8 ((nw : Nat) : Int)) (y_move) ?_
        refine l_y (v := .int .i64 ((nw : Nat) : Int)) (y_convertW (n := ((nw : Nat) : Int)) rfl Try.underlying5 Try.underlying3 (wrap8 rfl (by omega))) ?_
        refine l_c (e_call bd10 rfl (l := [.int .i64 ((nw : Nat) : Int)]) rfl) (c_aNew nw (by omega) (by omega) _) ?_
        rintro e m' ⟨bw, ba, hbw, hba, rfl, rfl⟩
        refine l_y (v := .tuple #[.pointer (some ⟨ba, 0, none⟩), .int .i64 0]) (y_move) ?_
        refine l_y (v := .pointer (some ⟨ba, 0, none⟩)) (y_extract (vs := #[.pointer (some ⟨ba, 0, none⟩), .int .i64 0]) rfl rfl) ?_
        refine l_y (v := .int .i64 0) (y_extract (vs := #[.pointer (some ⟨ba, 0, none⟩), .int .i64 0]) rfl rfl) ?_
        refine l_y (v := .pointer (some ⟨ba, 0, none⟩)) (y_assign) ?_
        refine l_y (v := .int .i64 0) (y_assign) ?_
        refine l_end ?_
        refine r_way ?_
        repeat (refine r_seq ?_)
        refine r_code (by decide) ?_
        refine e_reg rfl ?_
        refine l_y (v := .pointer (some ⟨ba, 0, none⟩)) (y_move) ?_
        refine l_y (v := .bool false) (y_eql (r := false) rfl rfl rfl rfl) ?_
        refine l_y (v := .bool false) (y_move) ?_
        refine g_y (v := .int .i64 0) (b := false) rfl rfl rfl rfl (y_move) ?_
        refine g_y (v := .bool false) (b := false) rfl rfl rfl rfl (y_int (p := 0) (q := 0) rfl rfl rfl) ?_
        refine l_y (v := .bool false) (y_pickF (t := false) rfl rfl rfl) ?_
        refine l_end ?_
        refine r_way ?_
        repeat (refine r_seq ?_)
        refine r_code (by decide) ?_
        refine e_ifF (t := false) rfl rfl ?_
        refine e_skip ?_
        refine r_way ?_
        repeat (refine r_seq ?_)
        refine r_code (by decide) ?_
        refine e_reg rfl ?_
        refine l_y (v := .slice none 0 0) (y_assign) ?_
        refine l_end ?_
        refine r_way ?_
        repeat (refine r_seq ?_)
        refine r_code (by decide) ?_
        refine e_reg rfl ?_
        refine l_y (v := .slice none 0 0) (y_assign) ?_
        refine l_end ?_
        refine r_way ?_
        repeat (refine r_seq ?_)
        refine r_code (by decide) ?_
        refine e_reg rfl ?_
        refine l_y (v := .slice pl rs.length cl) (y_move) ?_
        refine l_y (v := .int .i64 ((rs.length : Nat) : Int)) (y_len (b := pl) (n := rs.length) (c := cl) rfl rfl el44) ?_
        refine l_n (n_makeSlice1 (n := rs.length) rfl el47 sz31 by31 zr31 rfl (by omega) (by omega)) fun bl hbl => ?_
        refine l_y (v := .slice (some ⟨bl, 0, none⟩) rs.length rs.length) (y_assign) ?_
        refine l_end ?_
        refine r_way ?_
        refine start3 hbw hba hbl fun M1 f_bw f_ba f_bl h3 hup hro3 => ?_
        refine r_swap (L := roL (roW W) roW_ro) (L' := (PW W ba bw bl nw rs.length h3 hro3)) (fun _ _ h => h) ?_
        have hPl : Pl W ba bw bl nw rs.length h3 hro3 [] [] [] (s0P nw rs.length) (fun _ => none) M1 (fun _ => none) := pl_start f_bw f_ba f_bl hup
        repeat (refine r_seq ?_)
        refine r_code (by decide) ?_
        refine e_reg rfl ?_
        refine l_y (v := .int .u8 ((nw : Nat) : Int)) (y_move) ?_
        refine l_y (v := .int .i64 ((nw : Nat) : Int)) (y_convertW (n := ((nw : Nat) : Int)) rfl Try.underlying5 Try.underlying3 (wrap8 rfl (by omega))) ?_
        refine l_n (n_makeSlice1 (n := nw) rfl el47 sz31 by31 zr31 rfl (by omega) (by omega)) fun bm hbm => ?_
        have hP0 := hPl.new (c := Array.replicate nw (.int .u64 0)) (e := 31) hbm
        refine l_y (v := .slice (some ⟨bm, 0, none⟩) nw nw) (y_assign) ?_
        refine l_end ?_
        refine r_way ?_
        repeat (refine r_seq ?_)
        refine r_code (by decide) ?_
        refine e_reg rfl ?_
        refine l_y (v := .bool true) (y_assign) ?_
        refine l_end ?_
        refine r_way ?_
        repeat (refine r_seq ?_)
        refine r_code (by decide) ?_
        refine e_reg rfl ?_
        refine l_y (v := .int .i64 0) (y_assign) ?_
        refine l_end ?_
        refine r_way ?_
        repeat (refine r_seq ?_)
        refine r_code (by decide) ?_
        refine e_block ?_
        refine e_loop (σ := B3) (live := fun s => [(0, .int .u8 ((nw : Nat) : Int)), (1, .slice pl rs.length cl), (2, .slice po ol.length co), (7, .pointer (some ⟨ba, 0, none⟩)), (9, s.av), (10, s.wv), (11, .slice (some ⟨bl, 0, none⟩) rs.length rs.length), (12, .slice (some ⟨bm, 0, none⟩) nw nw), (13, .bool true), (14, .int .i64 ((s.k : Nat) : Int))]) (mem := fun s => ⟨s.M, (Well (PW W ba bw bl nw rs.length h3 hro3) Try.prog kd W.heap.size W (PostL W) s.tab)⟩) (I := fun s => s.k ≤ rs.length ∧ Pl W ba bw bl nw rs.length h3 hro3 (rs.take s.k) s.gs (List.replicate s.k ((0 : Nat), (0 : Int))) (s0P nw rs.length) s.tab s.M s.O ∧ Own3 s.O s.gs (rs.take s.k) (List.replicate s.k ((0 : Nat), (0 : Int))) (List.replicate nw 0) s.av s.ab s.wv s.wb (.slice (some ⟨bm, 0, none⟩) nw nw) (some bm)) (μ := fun s => rs.length - s.k) ⟨0, _, _, fun _ => none, [], .slice none 0 0, none, .slice none 0 0, none⟩ ⟨Nat.zero_le _, hP0, own_start⟩ rfl (live_cons rfl (live_cons rfl (live_cons rfl (live_cons rfl (live_cons rfl (live_cons rfl (live_cons rfl (live_cons rfl (live_cons rfl (live_cons rfl live_nil)))))))))) ?_
        rintro ⟨k, M, O, tab, gs, av, ab, wv, wb⟩ base ⟨hk, H, T⟩
        dsimp only at hk H T ⊢
        have hgl : gs.length = k := by have := H.n1; rw [List.length_take, Nat.min_eq_left hk] at this; exact this
        have htl : (rs.take k).length = k := by rw [List.length_take, Nat.min_eq_left hk]
        refine e_seq ?_
        refine e_seq ?_
        refine e_reg rfl ?_
        refine l_y (v := .int .i64 ((k : Nat) : Int)) (y_move) ?_
        refine l_y (v := .slice pl rs.length cl) (y_move) ?_
        refine l_y (v := .int .i64 ((rs.length : Nat) : Int)) (y_len (b := pl) (n := rs.length) (c := cl) rfl rfl el44) ?_
        refine l_y (v := .bool (decide (((k : Nat) : Int) < ((rs.length : Nat) : Int)))) (y_int (p := ((k : Nat) : Int)) (q := ((rs.length : Nat) : Int)) rfl rfl rfl) ?_
        refine l_end ?_
        refine e_then ?_
        refine e_if (t := decide (((k : Nat) : Int) < ((rs.length : Nat) : Int))) rfl (fun c4 => ?_) (fun c4 => ?_)
        · refine e_skip ?_
          refine e_then ?_
          refine e_seq ?_
          refine e_block ?_
          refine e_seq ?_
          have hlt : k < rs.length := by simp at c4; omega
          obtain ⟨ib, io, ic, ie, hpt, hib, hget⟩ := hrs.at (M := roW W) (fun _ _ h => h) (by intro z; rw [z] at hlt; simp at hlt)
          obtain ⟨r, hx⟩ : ∃ r, rs[k]? = some r := ⟨_, List.getElem?_eq_getElem hlt⟩
          have hrT := hrs.rows r (List.mem_of_getElem? hx)
          have hr2 := hr20 r (List.mem_of_getElem? hx)
          refine e_calm ?_
          refine e_draw (fun m => ∀ b o, roW W b = some o → m b = some o) [(0, true), (1, true), (2, true), (3, true), (4, true), (5, true), (6, true), (7, true), (8, true), (9, false), (10, false), (11, true), (12, true), (13, true), (14, true), (15, true)] mixed (by kernel_rfl) (fun b o h => H.hv.mn.ro b o h) (fun _ _ _ _ _ h => h.elim) ?_
          refine dr_m (v := .pointer (some ⟨ba, 0, none⟩)) rfl rfl (fun m hm => y_move) ?_
          refine dr_m (v := .iface 23 (.pointer (some ⟨ba, 0, none⟩))) rfl rfl (fun m hm => y_iface rfl if23) ?_
          refine dr_m (v := .slice pl rs.length cl) rfl rfl (fun m hm => y_move) ?_
          refine dr_m (v := .int .i64 ((k : Nat) : Int)) rfl rfl (fun m hm => y_move) ?_
          refine dr_m (v := .pointer (some ⟨ib, (io + k), none⟩)) rfl rfl (fun m hm => y_indexB (o := io) (j := ((k : Nat) : Int)) (n := rs.length) (c := cl) (by rw [← hpt]; rfl) rfl el44 sz49 (Int.natCast_nonneg k) (by omega) (by simp)) ?_
          refine dr_m (v := .slice r.po r.l.length r.c) rfl rfl (fun m hm => y_loadB rfl ag49 (hm ib _ hib) (hget k r hx)) ?_
          refine dr_m (v := .slice (some ⟨bl, 0, none⟩) rs.length rs.length) rfl rfl (fun m hm => y_move) ?_
          refine dr_m (v := .int .i64 ((k : Nat) : Int)) rfl rfl (fun m hm => y_move) ?_
          refine dr_m (v := .pointer (some ⟨bl, k, none⟩)) rfl rfl (fun m hm => y_indexB (o := 0) (j := ((k : Nat) : Int)) (n := rs.length) (c := rs.length) rfl rfl el47 sz31 (Int.natCast_nonneg k) (by omega) (by simp)) ?_
          refine dr_c rfl rfl (e_call bd21 rfl (l := [r.v, .pointer (some ⟨bl, k, none⟩)]) rfl) (c_program r.v (.pointer (some ⟨bl, k, none⟩)) _ rfl rfl) ?_
          rintro e m' ⟨t1, t2, ht1, ht2, rfl, rfl⟩
          refine ⟨fun b o h => up_new (up_new (fun _ _ h => h) ht1) ht2 b o (H.hv.mn.ro b o h), ?_⟩
          refine dr_c rfl rfl (e_call bd11 rfl (l := [.iface 23 (.pointer (some ⟨ba, 0, none⟩)), .func (.func 52) #[] #[.pointer (some ⟨t1, 0, none⟩), .pointer (some ⟨t2, 0, none⟩)]]) rfl) (play_birth (N := W.heap.size) (Post := PostL W) H htl hlt hrT (by omega) (s0P_ls hlt) ht1 ht2 rfl) ?_
          rintro e m' ⟨ag, M', tab', rfl, rfl, H'⟩
          refine ⟨fun b o h => H'.hv.mn.ro b o h, ?_⟩
          refine dr_m (v := .tuple #[.pointer (some ⟨ag.a, 0, none⟩), .int .i64 0]) rfl rfl (fun m hm => y_move) ?_
          refine dr_m (v := .pointer (some ⟨ag.a, 0, none⟩)) rfl rfl (fun m hm => y_extract (vs := #[.pointer (some ⟨ag.a, 0, none⟩), .int .i64 0]) rfl rfl) ?_
          refine dr_m (v := .int .i64 0) rfl rfl (fun m hm => y_extract (vs := #[.pointer (some ⟨ag.a, 0, none⟩), .int .i64 0]) rfl rfl) ?_
          refine dr_m (v := .pointer (some ⟨ag.a, 0, none⟩)) rfl rfl (fun m hm => y_assign) ?_
          refine dr_m (v := .int .i64 0) rfl rfl (fun m hm => y_assign) ?_
          refine dr_end ?_
          refine w_calm ?_
          refine e_then ?_
          refine e_seq ?_
          refine e_reg rfl ?_
          refine l_y (v := .bool true) (y_move) ?_
          refine l_y (v := .bool true) (y_move) ?_
          refine g_y (v := .int .i64 0) (b := true) rfl rfl rfl rfl (y_move) ?_
          refine g_y (v := .bool true) (b := true) rfl rfl rfl rfl (y_int (p := 0) (q := 0) rfl rfl rfl) ?_
          refine l_y (v := .bool true) (y_pickT (t := true) rfl rfl rfl) ?_
          refine l_y (v := .bool true) (y_move) ?_
          refine g_y (v := .pointer (some ⟨ag.a, 0, none⟩)) (b := true) rfl rfl rfl rfl (y_move) ?_
          refine g_y (v := .bool true) (b := true) rfl rfl rfl rfl (y_neq (r := false) rfl rfl rfl rfl) ?_
          refine l_y (v := .bool true) (y_pickT (t := true) rfl rfl rfl) ?_
          refine l_y (v := .bool true) (y_assign) ?_
          refine l_end ?_
          refine e_then ?_
          refine e_seq ?_
          refine e_reg rfl ?_
          refine l_y (v := av) (y_move) ?_
          refine l_y (v := .pointer (some ⟨ag.a, 0, none⟩)) (y_move) ?_
          refine l_n (n_buildSlice (ps := [(0, .pointer (some ⟨ag.a, 0, none⟩))]) (cs := #[.pointer (some ⟨ag.a, 0, none⟩)]) el39 sz22 zr22 (by decide) (by decide) rfl (by kernel_rfl)) fun b16 h16 => ?_
          have H1 := H'.new (c := #[.pointer (some ⟨ag.a, 0, none⟩)]) (e := 22) h16
          have T1 := T.new (x := .cells #[.pointer (some ⟨ag.a, 0, none⟩)] 22) (H'.hv.fresh h16)
          refine l_g (gives_append (sz := 1) (n := gs.length) (k := 1) (by_ := 8) (l := ptrs gs) (ln := [.pointer (some ⟨ag.a, 0, none⟩)]) (v := av) rfl rfl rfl rfl el39 el39 sz22 by22 zr22 rfl (H1.hv.sl T1.sa) (.inr ⟨b16, 0, 1, _, 22, (0, 0), rfl, Mem.hit _ _ _, Nat.le_refl 1, rfl⟩) rfl (by omega) ⟨by omega, by decide⟩) ?_
          intro v8 m8 happ
          obtain ⟨M8, O8, ab8, rfl, H8, T8⟩ := T1.appA H1 happ
          refine l_y (v := v8) (y_assign) ?_
          refine l_end ?_
          refine e_then ?_
          refine e_reg rfl ?_
          refine l_y (v := wv) (y_move) ?_
          refine l_y (v := .slice pl rs.length cl) (y_move) ?_
          refine l_y (v := .int .i64 ((k : Nat) : Int)) (y_move) ?_
          refine l_y (v := .pointer (some ⟨ib, (io + k), none⟩)) (y_indexB (o := io) (j := ((k : Nat) : Int)) (n := rs.length) (c := cl) (by rw [← hpt]; rfl) rfl el44 sz49 (Int.natCast_nonneg k) (by omega) (by simp)) ?_
          refine l_y (v := .slice r.po r.l.length r.c) (y_loadB rfl ag49 (H8.hv.mn.ro ib _ hib) (hget k r hx)) ?_
          refine l_y (v := .agg #[.slice r.po r.l.length r.c, .int .i64 0, .int .u64 0]) (y_build (ps := [(0, .slice r.po r.l.length r.c)]) (cs := #[.slice r.po r.l.length r.c, .int .i64 0, .int .u64 0]) zr52 rfl pl52 rfl) ?_
          refine l_n (n_buildSlice (ps := [(0, .agg #[.slice r.po r.l.length r.c, .int .i64 0, .int .u64 0])]) (cs := #[.slice r.po r.l.length r.c, .int .i64 0, .int .u64 0]) el46 sz52 zr52 (by decide) (by decide) rfl (by kernel_rfl)) fun b17 h17 => ?_
          have H2 := H8.new (c := #[.slice r.po r.l.length r.c, .int .i64 0, .int .u64 0]) (e := 52) h17
          have T2 := T8.new (x := .cells #[.slice r.po r.l.length r.c, .int .i64 0, .int .u64 0] 52) (H8.hv.fresh h17)
          refine l_g (gives_append (sz := 3) (n := (List.replicate k ((0 : Nat), (0 : Int))).length) (k := 1) (by_ := 40) (l := progsV (rs.take k) (List.replicate k ((0 : Nat), (0 : Int)))) (ln := progV r (0, 0)) (v := wv) rfl rfl rfl rfl el46 el46 sz52 by52 zr52 rfl (H2.hv.sl T2.sw) (.inr ⟨b17, 0, 1, _, 52, (0, 0), rfl, Mem.hit _ _ _, Nat.le_refl 3, rfl⟩) rfl (by rw [List.length_replicate]; omega) ⟨by rw [List.length_replicate]; omega, by decide⟩) ?_
          intro v9 m9 happ9
          obtain ⟨M9, O9, wb9, rfl, H9, T9⟩ := T2.appW (by rw [htl, List.length_replicate]) H2 happ9
          refine l_y (v := v9) (y_assign) ?_
          refine l_end ?_
          refine w_block rfl ?_
          refine e_then ?_
          have hwrap : IntKind.i64.wrap (((k : Nat) : Int) + 1) = ((k + 1 : Nat) : Int) := wrap8 rfl (x := k + 1) (by omega)
          refine e_reg rfl ?_
          refine l_y (v := .int .i64 ((k : Nat) : Int)) (y_move) ?_
          refine l_y (v := .int .i64 ((k + 1 : Nat) : Int)) (y_int (p := ((k : Nat) : Int)) (q := 1) rfl rfl (by rw [← hwrap]; rfl)) ?_
          refine l_y (v := .int .i64 ((k + 1 : Nat) : Int)) (y_assign) ?_
          refine l_end ?_
          have htk : rs.take k ++ [r] = rs.take (k + 1) := by rw [List.take_add_one, hx]; rfl
          have hrp : List.replicate k ((0 : Nat), (0 : Int)) ++ [((0 : Nat), (0 : Int))] = List.replicate (k + 1) ((0 : Nat), (0 : Int)) := List.replicate_succ'.symm
          rw [htk, hrp] at H9 T9
          refine Sp.w_round (σ := B3) (s := ⟨k, M, O, tab, gs, av, ab, wv, wb⟩) (s' := ⟨k + 1, M9, O9, tab', gs ++ [ag], v8, ab8, v9, wb9⟩) ?_ ?_ ?_ ?_
          · exact ⟨hlt, H9, T9⟩
          · dsimp only; omega
          · rfl
          · exact fun _ => (live_cons rfl (live_cons rfl (live_cons rfl (live_cons rfl (live_cons rfl (live_cons rfl (live_cons rfl (live_cons rfl (live_cons rfl (live_cons rfl live_nil))))))))))
        · refine e_exit ?_
          refine w_then rfl ?_
          refine w_then rfl ?_
          refine w_exit ?_
          refine r_way ?_
          repeat (refine r_seq ?_)
          refine r_code (by decide) ?_
          have hke : k = rs.length := by simp at c4; omega
          subst hke
          rw [List.take_length] at H T
          obtain ⟨p9, q9, hav⟩ := slB_slice T.sa
          rw [hgl] at hav
          subst hav
          obtain ⟨p10, q10, hwv⟩ := slB_slice T.sw
          rw [List.length_replicate] at hwv
          subst hwv
          refine e_reg rfl ?_
          refine l_y (v := .int .i64 0) (y_assign) ?_
          refine l_end ?_
          refine r_way ?_
          repeat (refine r_seq ?_)
          refine r_code (by decide) ?_
          refine e_block ?_
          refine e_loop (σ := B4) (live := fun s => [(0, .int .u8 ((nw : Nat) : Int)), (1, .slice pl rs.length cl), (2, .slice po ol.length co), (7, .pointer (some ⟨ba, 0, none⟩)), (9, .slice p9 rs.length q9), (10, .slice p10 rs.length q10), (11, .slice (some ⟨bl, 0, none⟩) rs.length rs.length), (12, s.mv), (13, .bool true), (17, .int .i64 ((s.k : Nat) : Int))]) (mem := fun s => ⟨s.M, (Well (PW W ba bw bl nw rs.length h3 hro3) Try.prog kd W.heap.size W (PostL W) s.tab)⟩) (I := fun s => s.k ≤ ol.length ∧ Pl W ba bw bl nw rs.length h3 hro3 rs gs s.ps s.s s.tab s.M s.O ∧ Own3 s.O gs rs s.ps s.s.ws (.slice p9 rs.length q9) ab (.slice p10 rs.length q10) wb s.mv s.mb) (μ := fun s => ol.length - s.k) ⟨0, List.replicate rs.length ((0 : Nat), (0 : Int)), s0P nw rs.length, tab, M, O, _, _⟩ ⟨Nat.zero_le _, H, T⟩ rfl (live_cons rfl (live_cons rfl (live_cons rfl (live_cons rfl (live_cons rfl (live_cons rfl (live_cons rfl (live_cons rfl (live_cons rfl (live_cons rfl live_nil)))))))))) ?_
          clear H T
          rintro ⟨k, ps, s1, tab1, M1, O1, mv, mb⟩ base2 ⟨hk2, H1, T1⟩
          dsimp only at hk2 H1 T1 ⊢
          obtain ⟨p12, q12, hmv⟩ := slB_slice T1.sm
          rw [H1.lw] at hmv
          subst hmv
          refine e_seq ?_
          refine e_seq ?_
          refine e_reg rfl ?_
          refine l_y (v := .int .i64 ((k : Nat) : Int)) (y_move) ?_
          refine l_y (v := .slice po ol.length co) (y_move) ?_
          refine l_y (v := .int .i64 ((ol.length : Nat) : Int)) (y_len (b := po) (n := ol.length) (c := co) rfl rfl el37) ?_
          refine l_y (v := .bool (decide (((k : Nat) : Int) < ((ol.length : Nat) : Int)))) (y_int (p := ((k : Nat) : Int)) (q := ((ol.length : Nat) : Int)) rfl rfl rfl) ?_
          refine l_y (v := .bool (decide (((k : Nat) : Int) < ((ol.length : Nat) : Int)))) (y_move) ?_
          rcases Bool.eq_false_or_eq_true (decide (((k : Nat) : Int) < ((ol.length : Nat) : Int))) with c5 | c5
          · refine g_y (v := .slice pl rs.length cl) (b := decide (((k : Nat) : Int) < ((ol.length : Nat) : Int))) rfl rfl rfl c5 (y_move) ?_
            refine g_y (v := .int .i64 ((rs.length : Nat) : Int)) (b := decide (((k : Nat) : Int) < ((ol.length : Nat) : Int))) rfl rfl rfl c5 (y_len (b := pl) (n := rs.length) (c := cl) rfl rfl el44) ?_
            refine g_y (v := .bool (decide (((rs.length : Nat) : Int) > 0))) (b := decide (((k : Nat) : Int) < ((ol.length : Nat) : Int))) rfl rfl rfl c5 (y_int (p := ((rs.length : Nat) : Int)) (q := 0) rfl rfl rfl) ?_
            refine l_y (v := .bool (decide (((rs.length : Nat) : Int) > 0))) (y_pickT (t := decide (((k : Nat) : Int) < ((ol.length : Nat) : Int))) rfl c5 rfl) ?_
            refine l_y (v := .bool (decide (((rs.length : Nat) : Int) > 0))) (y_move) ?_
            rcases Bool.eq_false_or_eq_true (decide (((rs.length : Nat) : Int) > 0)) with c6 | c6
            · refine g_y (v := .bool true) (b := decide (((rs.length : Nat) : Int) > 0)) rfl rfl rfl c6 (y_move) ?_
              refine l_y (v := .bool true) (y_pickT (t := decide (((rs.length : Nat) : Int) > 0)) rfl c6 rfl) ?_
              refine l_end ?_
              refine e_then ?_
              refine e_ifT (t := true) rfl rfl ?_
              refine e_skip ?_
              refine e_then ?_
              refine e_seq ?_
              refine e_block ?_
              refine e_seq ?_
              have hlt : k < ol.length := by simp at c5; omega
              have hpos : 0 < rs.length := by simp at c6; omega
              obtain ⟨jb, jo, jc, je, hpo, hjb, hjz, hjet⟩ := hol.at (M := M1) H1.hv.mn.ro (by intro z; rw [z] at hlt; simp at hlt)
              obtain ⟨y, hy⟩ : ∃ y, ol[k]? = some y := ⟨_, List.getElem?_eq_getElem hlt⟩
              have hy2 : y < 256 := hol.small y (List.mem_of_getElem? hy)
              have hgy : jc[jo + k]? = some (.int .u8 ((y : Nat) : Int)) := by have := hjet k hlt; rw [List.getElem?_eq_getElem hlt] at hy; rw [Option.some.inj hy] at this; exact this
              obtain ⟨kk, hkk⟩ : ∃ kk, kk = y % rs.length := ⟨_, rfl⟩
              have hrem : intOp .rem .i64 ((y : Nat) : Int) ((rs.length : Nat) : Int) = some (.int .i64 ((kk : Nat) : Int)) := by rw [hkk]; exact intRem (by omega)
              have hkl : kk < rs.length := by rw [hkk]; exact Nat.mod_lt _ hpos
              obtain ⟨a, ha⟩ : ∃ a, gs[kk]? = some a := ⟨_, List.getElem?_eq_getElem (by rw [hgl]; exact hkl)⟩
              obtain ⟨r, hr⟩ : ∃ r, rs[kk]? = some r := ⟨_, List.getElem?_eq_getElem hkl⟩
              obtain ⟨p, hp⟩ : ∃ p, ps[kk]? = some p := ⟨_, List.getElem?_eq_getElem (by rw [H1.n2]; exact hkl)⟩
              have hrT := hrs.rows r (List.mem_of_getElem? hr)
              have hr2 := hr20 r (List.mem_of_getElem? hr)
              obtain ⟨b10, cc10, rest10, hwb0, h10, hm10, hl10, hc10⟩ := slB_at3 T1.sw (by rw [H1.n2]; exact hpos)
              have hp10 := (Value.slice.inj h10).1
              obtain ⟨g0, g1, g2⟩ := progsV_get rs ps kk r p hr hp
              have g2l := (List.getElem?_eq_some_iff.1 g2).1
              refine e_reg rfl ?_
              refine l_y (v := .slice po ol.length co) (y_move) ?_
              refine l_y (v := .int .i64 ((k : Nat) : Int)) (y_move) ?_
              refine l_y (v := .pointer (some ⟨jb, (jo + k), none⟩)) (y_indexB (o := jo) (j := ((k : Nat) : Int)) (n := ol.length) (c := co) (by rw [← hpo]; rfl) rfl el37 sz5 (Int.natCast_nonneg k) (by omega) (by simp)) ?_
              refine l_y (v := .int .u8 ((y : Nat) : Int)) (y_loadB rfl ag5 hjb hgy) ?_
              refine l_y (v := .int .i64 ((y : Nat) : Int)) (y_convertW (n := ((y : Nat) : Int)) rfl Try.underlying5 Try.underlying3 (wrap8 rfl (by omega))) ?_
              refine l_y (v := .slice pl rs.length cl) (y_move) ?_
              refine l_y (v := .int .i64 ((rs.length : Nat) : Int)) (y_len (b := pl) (n := rs.length) (c := cl) rfl rfl el44) ?_
              refine l_y (v := .int .i64 ((kk : Nat) : Int)) (y_int (p := ((y : Nat) : Int)) (q := ((rs.length : Nat) : Int)) rfl rfl hrem) ?_
              refine l_y (v := .int .i64 ((kk : Nat) : Int)) (y_assign) ?_
              refine l_end ?_
              refine e_then ?_
              refine e_seq ?_
              refine e_reg rfl ?_
              refine l_y (v := .slice p10 rs.length q10) (y_move) ?_
              refine l_y (v := .int .i64 ((kk : Nat) : Int)) (y_move) ?_
              refine l_y (v := .pointer (some ⟨b10, (kk * 3), none⟩)) (y_indexB (o := 0) (j := ((kk : Nat) : Int)) (n := rs.length) (c := q10) (by rw [← hp10]; rfl) rfl el46 sz52 (Int.natCast_nonneg kk) (by omega) (by simp)) ?_
              refine l_y (v := .agg #[.slice r.po r.l.length r.c, .int .i64 ((p.1 : Nat) : Int), .int .u64 p.2]) (y_loadNB (n := 3) (l := [.slice r.po r.l.length r.c, .int .i64 ((p.1 : Nat) : Int), .int .u64 p.2]) rfl ag52 sz52 (H1.hv.m hm10) (app_take3 g0 g1 g2) (by simp; omega)) ?_
              refine l_y (v := .slice p12 nw q12) (y_move) ?_
              refine l_c (e_call bd22 rfl (l := [.agg #[.slice r.po r.l.length r.c, .int .i64 ((p.1 : Nat) : Int), .int .u64 p.2], .slice p12 nw q12]) rfl) (play_ref H1 T1 hrT hr2 (by rw [H1.lw]; omega) (by rw [H1.lw]; omega)) ?_
              rintro e m' ⟨v20, b20, M2, O2, rfl, rfl, H2, T2, T3⟩
              obtain ⟨p20, q20, rfl⟩ := slB_slice T3.sm
              refine l_y (v := .tuple #[.agg #[.slice r.po r.l.length r.c, .int .i64 (((nxP r p s1.ws).1 : Nat) : Int), .int .u64 ((nxP r p s1.ws).2)], .slice p20 ((nxW r p s1.ws).length) q20, .bool (decide (p.1 < r.l.length))]) (y_move) ?_
              refine l_y (v := .agg #[.slice r.po r.l.length r.c, .int .i64 (((nxP r p s1.ws).1 : Nat) : Int), .int .u64 ((nxP r p s1.ws).2)]) (y_extract (vs := #[.agg #[.slice r.po r.l.length r.c, .int .i64 (((nxP r p s1.ws).1 : Nat) : Int), .int .u64 ((nxP r p s1.ws).2)], .slice p20 ((nxW r p s1.ws).length) q20, .bool (decide (p.1 < r.l.length))]) rfl rfl) ?_
              refine l_y (v := .slice p20 ((nxW r p s1.ws).length) q20) (y_extract (vs := #[.agg #[.slice r.po r.l.length r.c, .int .i64 (((nxP r p s1.ws).1 : Nat) : Int), .int .u64 ((nxP r p s1.ws).2)], .slice p20 ((nxW r p s1.ws).length) q20, .bool (decide (p.1 < r.l.length))]) rfl rfl) ?_
              refine l_y (v := .bool (decide (p.1 < r.l.length))) (y_extract (vs := #[.agg #[.slice r.po r.l.length r.c, .int .i64 (((nxP r p s1.ws).1 : Nat) : Int), .int .u64 ((nxP r p s1.ws).2)], .slice p20 ((nxW r p s1.ws).length) q20, .bool (decide (p.1 < r.l.length))]) rfl rfl) ?_
              refine l_n (n_alloc zr52) fun b19 h19 => ?_
              refine l_d (d_storeB (v := .agg #[.slice r.po r.l.length r.c, .int .i64 (((nxP r p s1.ws).1 : Nat) : Int), .int .u64 ((nxP r p s1.ws).2)]) (c' := #[.slice r.po r.l.length r.c, .int .i64 (((nxP r p s1.ws).1 : Nat) : Int), .int .u64 ((nxP r p s1.ws).2)]) rfl rfl sz52 (Mem.hit _ _ _) rfl rfl (Nat.le_refl 3) rfl) ?_
              rw [Mem.set_set]
              have H4 := H2.new (c := #[.slice r.po r.l.length r.c, .int .i64 (((nxP r p s1.ws).1 : Nat) : Int), .int .u64 ((nxP r p s1.ws).2)]) (e := 52) h19
              have T4 := T2.new (x := .cells #[.slice r.po r.l.length r.c, .int .i64 (((nxP r p s1.ws).1 : Nat) : Int), .int .u64 ((nxP r p s1.ws).2)] 52) (H2.hv.fresh h19)
              have T5 := T3.new (x := .cells #[.slice r.po r.l.length r.c, .int .i64 (((nxP r p s1.ws).1 : Nat) : Int), .int .u64 ((nxP r p s1.ws).2)] 52) (H2.hv.fresh h19)
              obtain ⟨b9, cc9, rest9, hab, h9, hm9, hl9, hc9⟩ := SlB.at T4.sa (by omega)
              have hp9 := (Value.slice.inj h9).1
              obtain ⟨bW, ccW, restW, hwb, hW, hmW2, hlW, hcW⟩ := slB_at3 T2.sw (by rw [H1.n2]; exact hpos)
              have hpW := (Value.slice.inj hW).1
              have hneW : bW ≠ b19 := fun e => by rw [e, show (pm O2) b19 = O2 b19 from rfl, H2.hv.fresh h19] at hmW2; cases hmW2
              have hmW : (O2.put b19 (.cells #[.slice r.po r.l.length r.c, .int .i64 (((nxP r p s1.ws).1 : Nat) : Int), .int .u64 ((nxP r p s1.ws).2)] 52)) bW = some (.cells (progsV rs ps ++ restW).toArray 52) := (Part.put_ne _ _ hneW).trans hmW2
              refine l_y (v := .slice p20 ((nxW r p s1.ws).length) q20) (y_assign) ?_
              refine l_y (v := .bool (decide (p.1 < r.l.length))) (y_assign) ?_
              refine l_end ?_
              refine e_then ?_
              refine e_seq ?_
              refine e_reg rfl ?_
              refine l_y (v := .pointer (some ⟨ba, 0, none⟩)) (y_move) ?_
              refine l_cr (e_call bd23 rfl (l := [.pointer (some ⟨ba, 0, none⟩)]) rfl) (c_Touched ba bw s1.ws s1.tc s1.la _ H4.ba') ?_
              refine l_y (v := .int .u64 s1.tc) (y_assign) ?_
              refine l_end ?_
              refine e_then ?_
              refine e_seq ?_
              refine e_reg rfl ?_
              refine l_y (v := .slice p9 rs.length q9) (y_move) ?_
              refine l_y (v := .int .i64 ((kk : Nat) : Int)) (y_move) ?_
              refine l_y (v := .pointer (some ⟨b9, kk, none⟩)) (y_indexB (o := 0) (j := ((kk : Nat) : Int)) (n := rs.length) (c := q9) (by rw [← hp9]; rfl) rfl el39 sz22 (Int.natCast_nonneg kk) (by omega) (by simp)) ?_
              refine l_y (v := .pointer (some ⟨a.a, 0, none⟩)) (y_loadB rfl ag22 (H4.hv.m hm9) (app_get (ptrs_get ha))) ?_
              refine l_c (e_call bd13 rfl (l := [.pointer (some ⟨a.a, 0, none⟩)]) rfl) (H4.step (N := W.heap.size) (Post := PostL W) ha hr hp) ?_
              rintro e m' ⟨rfl, M6, tab6, rfl, H6⟩
              refine l_y (v := .int .i64 (if p.1 < r.l.length then 0 else 6)) (y_assign) ?_
              refine l_end ?_
              refine e_then ?_
              refine e_seq ?_
              refine e_join [(0, .int .u8 ((nw : Nat) : Int)), (1, .slice pl rs.length cl), (2, .slice po ol.length co), (7, .pointer (some ⟨ba, 0, none⟩)), (9, .slice p9 rs.length q9), (10, .slice p10 rs.length q10), (11, .slice (some ⟨bl, 0, none⟩) rs.length rs.length), (12, .slice p12 nw q12), (13, .bool true), (17, .int .i64 ((k : Nat) : Int)), (18, .int .i64 ((kk : Nat) : Int)), (19, .pointer (some ⟨b19, 0, none⟩)), (20, .slice p20 ((nxW r p s1.ws).length) q20), (21, .bool (decide (p.1 < r.l.length))), (22, .int .u64 s1.tc), (23, .int .i64 (if p.1 < r.l.length then 0 else 6)), (24, .bool (thB r p nw))] ⟨M6, (Well (PW W ba bw bl nw rs.length h3 hro3) Try.prog kd W.heap.size W (PostL W) tab6)⟩ ?_ (fun Q25 hk25 => ?_)
              rotate_left
              · rcases Nat.lt_or_ge p.1 r.l.length with hc | hc
                · have hce : decide (p.1 < r.l.length) = true := decide_eq_true hc
                  obtain ⟨x, hx⟩ : ∃ x, r.l[p.1]? = some x := ⟨_, List.getElem?_eq_getElem hc⟩
                  obtain ⟨br, or, cr, er, zr, hpr, hbr, x0, x1, x2⟩ := rowT_at hrT hx
                  rcases (by omega : x.a < 0 ∨ 0 ≤ x.a) with h0 | h0
                  · have hge : decide (x.a ≥ 0) = false := by simpa using h0
                    have hth : thB r p nw = false := by unfold thB; rw [hx]; simp; omega
                    refine e_calm ?_
                    refine e_draw (fun m => m bW = some (.cells (progsV rs ps ++ restW).toArray 52) ∧ m br = some (.cells cr er zr)) [(0, true), (1, true), (2, true), (3, true), (4, true), (5, true), (6, true), (7, true), (8, true), (9, true), (10, true), (11, true), (12, true), (13, true), (14, true), (15, true), (16, true), (17, true), (18, true), (19, true), (20, true), (21, true), (22, true), (23, true), (24, true), (25, true), (26, true), (27, true), (28, true), (29, true), (30, true), (31, true), (32, true), (33, true), (34, true), (35, true)] mixed (by kernel_rfl) (⟨H6.hv.m hmW, H6.hv.mn.ro br _ hbr⟩) (fun _ _ _ _ _ h => h.elim) ?_
                    refine dr_m (v := .bool (decide (p.1 < r.l.length))) rfl rfl (fun m hm => y_move) ?_
                    refine dr_m (v := .bool (decide (p.1 < r.l.length))) rfl rfl (fun m hm => y_move) ?_
                    refine dr_gm (v := .slice p10 rs.length q10) (b := decide (p.1 < r.l.length)) rfl rfl rfl rfl rfl hce (fun m hm => y_move) ?_
                    refine dr_gm (v := .int .i64 ((kk : Nat) : Int)) (b := decide (p.1 < r.l.length)) rfl rfl rfl rfl rfl hce (fun m hm => y_move) ?_
                    refine dr_gm (v := .pointer (some ⟨bW, (kk * 3), none⟩)) (b := decide (p.1 < r.l.length)) rfl rfl rfl rfl rfl hce (fun m hm => y_indexB (o := 0) (j := ((kk : Nat) : Int)) (n := rs.length) (c := q10) (by rw [← hpW]; rfl) rfl el46 sz52 (Int.natCast_nonneg kk) (by omega) (by simp)) ?_
                    refine dr_gm (v := .pointer (some ⟨bW, (kk * 3), none⟩)) (b := decide (p.1 < r.l.length)) rfl rfl rfl rfl rfl hce (fun m hm => y_fieldB rfl Try.underlying52 rfl sz49 rfl) ?_
                    refine dr_gm (v := .slice r.po r.l.length r.c) (b := decide (p.1 < r.l.length)) rfl rfl rfl rfl rfl hce (fun m hm => y_loadB rfl ag49 hm.1 (app_get g0)) ?_
                    refine dr_gm (v := .slice p10 rs.length q10) (b := decide (p.1 < r.l.length)) rfl rfl rfl rfl rfl hce (fun m hm => y_move) ?_
                    refine dr_gm (v := .int .i64 ((kk : Nat) : Int)) (b := decide (p.1 < r.l.length)) rfl rfl rfl rfl rfl hce (fun m hm => y_move) ?_
                    refine dr_gm (v := .pointer (some ⟨bW, (kk * 3), none⟩)) (b := decide (p.1 < r.l.length)) rfl rfl rfl rfl rfl hce (fun m hm => y_indexB (o := 0) (j := ((kk : Nat) : Int)) (n := rs.length) (c := q10) (by rw [← hpW]; rfl) rfl el46 sz52 (Int.natCast_nonneg kk) (by omega) (by simp)) ?_
                    refine dr_gm (v := .pointer (some ⟨bW, (kk * 3) + 1, none⟩)) (b := decide (p.1 < r.l.length)) rfl rfl rfl rfl rfl hce (fun m hm => y_fieldB rfl Try.underlying52 rfl sz3 rfl) ?_
                    refine dr_gm (v := .int .i64 ((p.1 : Nat) : Int)) (b := decide (p.1 < r.l.length)) rfl rfl rfl rfl rfl hce (fun m hm => y_loadB rfl ag3 hm.1 (app_get g1)) ?_
                    refine dr_gm (v := .pointer (some ⟨br, (or + p.1 * 3), none⟩)) (b := decide (p.1 < r.l.length)) rfl rfl rfl rfl rfl hce (fun m hm => y_indexB (o := or) (j := ((p.1 : Nat) : Int)) (n := r.l.length) (c := r.c) (by rw [← hpr]; rfl) rfl el49 sz57 (Int.natCast_nonneg p.1) (by omega) (by simp)) ?_
                    refine dr_gm (v := .pointer (some ⟨br, (or + p.1 * 3) + 1, none⟩)) (b := decide (p.1 < r.l.length)) rfl rfl rfl rfl rfl hce (fun m hm => y_fieldB rfl Try.underlying57 rfl sz3 rfl) ?_
                    refine dr_gm (v := .int .i64 x.a) (b := decide (p.1 < r.l.length)) rfl rfl rfl rfl rfl hce (fun m hm => y_loadB rfl ag3 hm.2 x1) ?_
                    refine dr_gm (v := .bool (decide (x.a ≥ 0))) (b := decide (p.1 < r.l.length)) rfl rfl rfl rfl rfl hce (fun m hm => y_int (p := x.a) (q := 0) rfl rfl rfl) ?_
                    refine dr_m (v := .bool (decide (x.a ≥ 0))) rfl rfl (fun m hm => y_pickT (t := decide (p.1 < r.l.length)) rfl hce rfl) ?_
                    refine dr_m (v := .bool (decide (x.a ≥ 0))) rfl rfl (fun m hm => y_move) ?_
                    refine dr_gx (b := decide (x.a ≥ 0)) rfl rfl rfl rfl rfl hge ?_
                    refine dr_gx (b := decide (x.a ≥ 0)) rfl rfl rfl rfl rfl hge ?_
                    refine dr_gx (b := decide (x.a ≥ 0)) rfl rfl rfl rfl rfl hge ?_
                    refine dr_gx (b := decide (x.a ≥ 0)) rfl rfl rfl rfl rfl hge ?_
                    refine dr_gx (b := decide (x.a ≥ 0)) rfl rfl rfl rfl rfl hge ?_
                    refine dr_gx (b := decide (x.a ≥ 0)) rfl rfl rfl rfl rfl hge ?_
                    refine dr_gx (b := decide (x.a ≥ 0)) rfl rfl rfl rfl rfl hge ?_
                    refine dr_gx (b := decide (x.a ≥ 0)) rfl rfl rfl rfl rfl hge ?_
                    refine dr_gx (b := decide (x.a ≥ 0)) rfl rfl rfl rfl rfl hge ?_
                    refine dr_gx (b := decide (x.a ≥ 0)) rfl rfl rfl rfl rfl hge ?_
                    refine dr_gx (b := decide (x.a ≥ 0)) rfl rfl rfl rfl rfl hge ?_
                    refine dr_gx (b := decide (x.a ≥ 0)) rfl rfl rfl rfl rfl hge ?_
                    refine dr_gx (b := decide (x.a ≥ 0)) rfl rfl rfl rfl rfl hge ?_
                    refine dr_gx (b := decide (x.a ≥ 0)) rfl rfl rfl rfl rfl hge ?_
                    refine dr_gx (b := decide (x.a ≥ 0)) rfl rfl rfl rfl rfl hge ?_
                    refine dr_gx (b := decide (x.a ≥ 0)) rfl rfl rfl rfl rfl hge ?_
                    refine dr_m (v := .bool false) rfl rfl (fun m hm => y_pickF (t := decide (x.a ≥ 0)) rfl hge rfl) ?_
                    refine dr_m (v := .bool false) rfl rfl (fun m hm => y_assign) ?_
                    refine dr_end ?_
                    refine w_calm ?_
                    exact w_join hk25 (live_cons rfl (live_cons rfl (live_cons rfl (live_cons rfl (live_cons rfl (live_cons rfl (live_cons rfl (live_cons rfl (live_cons rfl (live_cons rfl (live_cons rfl (live_cons rfl (live_cons rfl (live_cons rfl (live_cons rfl (live_cons rfl (live_cons (by rw [hth]; rfl) live_nil)))))))))))))))))
                  · have hge : decide (x.a ≥ 0) = true := decide_eq_true h0
                    have hth : thB r p nw = decide (x.a < ((nw : Nat) : Int)) := by unfold thB; rw [hx]; simp [h0]
                    refine e_calm ?_
                    refine e_draw (fun m => m bW = some (.cells (progsV rs ps ++ restW).toArray 52) ∧ m br = some (.cells cr er zr)) [(0, true), (1, true), (2, true), (3, true), (4, true), (5, true), (6, true), (7, true), (8, true), (9, true), (10, true), (11, true), (12, true), (13, true), (14, true), (15, true), (16, true), (17, true), (18, true), (19, true), (20, true), (21, true), (22, true), (23, true), (24, true), (25, true), (26, true), (27, true), (28, true), (29, true), (30, true), (31, true), (32, true), (33, true), (34, true), (35, true)] mixed (by kernel_rfl) (⟨H6.hv.m hmW, H6.hv.mn.ro br _ hbr⟩) (fun _ _ _ _ _ h => h.elim) ?_
                    refine dr_m (v := .bool (decide (p.1 < r.l.length))) rfl rfl (fun m hm => y_move) ?_
                    refine dr_m (v := .bool (decide (p.1 < r.l.length))) rfl rfl (fun m hm => y_move) ?_
                    refine dr_gm (v := .slice p10 rs.length q10) (b := decide (p.1 < r.l.length)) rfl rfl rfl rfl rfl hce (fun m hm => y_move) ?_
                    refine dr_gm (v := .int .i64 ((kk : Nat) : Int)) (b := decide (p.1 < r.l.length)) rfl rfl rfl rfl rfl hce (fun m hm => y_move) ?_
                    refine dr_gm (v := .pointer (some ⟨bW, (kk * 3), none⟩)) (b := decide (p.1 < r.l.length)) rfl rfl rfl rfl rfl hce (fun m hm => y_indexB (o := 0) (j := ((kk : Nat) : Int)) (n := rs.length) (c := q10) (by rw [← hpW]; rfl) rfl el46 sz52 (Int.natCast_nonneg kk) (by omega) (by simp)) ?_
                    refine dr_gm (v := .pointer (some ⟨bW, (kk * 3), none⟩)) (b := decide (p.1 < r.l.length)) rfl rfl rfl rfl rfl hce (fun m hm => y_fieldB rfl Try.underlying52 rfl sz49 rfl) ?_
                    refine dr_gm (v := .slice r.po r.l.length r.c) (b := decide (p.1 < r.l.length)) rfl rfl rfl rfl rfl hce (fun m hm => y_loadB rfl ag49 hm.1 (app_get g0)) ?_
                    refine dr_gm (v := .slice p10 rs.length q10) (b := decide (p.1 < r.l.length)) rfl rfl rfl rfl rfl hce (fun m hm => y_move) ?_
                    refine dr_gm (v := .int .i64 ((kk : Nat) : Int)) (b := decide (p.1 < r.l.length)) rfl rfl rfl rfl rfl hce (fun m hm => y_move) ?_
                    refine dr_gm (v := .pointer (some ⟨bW, (kk * 3), none⟩)) (b := decide (p.1 < r.l.length)) rfl rfl rfl rfl rfl hce (fun m hm => y_indexB (o := 0) (j := ((kk : Nat) : Int)) (n := rs.length) (c := q10) (by rw [← hpW]; rfl) rfl el46 sz52 (Int.natCast_nonneg kk) (by omega) (by simp)) ?_
                    refine dr_gm (v := .pointer (some ⟨bW, (kk * 3) + 1, none⟩)) (b := decide (p.1 < r.l.length)) rfl rfl rfl rfl rfl hce (fun m hm => y_fieldB rfl Try.underlying52 rfl sz3 rfl) ?_
                    refine dr_gm (v := .int .i64 ((p.1 : Nat) : Int)) (b := decide (p.1 < r.l.length)) rfl rfl rfl rfl rfl hce (fun m hm => y_loadB rfl ag3 hm.1 (app_get g1)) ?_
                    refine dr_gm (v := .pointer (some ⟨br, (or + p.1 * 3), none⟩)) (b := decide (p.1 < r.l.length)) rfl rfl rfl rfl rfl hce (fun m hm => y_indexB (o := or) (j := ((p.1 : Nat) : Int)) (n := r.l.length) (c := r.c) (by rw [← hpr]; rfl) rfl el49 sz57 (Int.natCast_nonneg p.1) (by omega) (by simp)) ?_
                    refine dr_gm (v := .pointer (some ⟨br, (or + p.1 * 3) + 1, none⟩)) (b := decide (p.1 < r.l.length)) rfl rfl rfl rfl rfl hce (fun m hm => y_fieldB rfl Try.underlying57 rfl sz3 rfl) ?_
                    refine dr_gm (v := .int .i64 x.a) (b := decide (p.1 < r.l.length)) rfl rfl rfl rfl rfl hce (fun m hm => y_loadB rfl ag3 hm.2 x1) ?_
                    refine dr_gm (v := .bool (decide (x.a ≥ 0))) (b := decide (p.1 < r.l.length)) rfl rfl rfl rfl rfl hce (fun m hm => y_int (p := x.a) (q := 0) rfl rfl rfl) ?_
                    refine dr_m (v := .bool (decide (x.a ≥ 0))) rfl rfl (fun m hm => y_pickT (t := decide (p.1 < r.l.length)) rfl hce rfl) ?_
                    refine dr_m (v := .bool (decide (x.a ≥ 0))) rfl rfl (fun m hm => y_move) ?_
                    refine dr_gm (v := .slice p10 rs.length q10) (b := decide (x.a ≥ 0)) rfl rfl rfl rfl rfl hge (fun m hm => y_move) ?_
                    refine dr_gm (v := .int .i64 ((kk : Nat) : Int)) (b := decide (x.a ≥ 0)) rfl rfl rfl rfl rfl hge (fun m hm => y_move) ?_
                    refine dr_gm (v := .pointer (some ⟨bW, (kk * 3), none⟩)) (b := decide (x.a ≥ 0)) rfl rfl rfl rfl rfl hge (fun m hm => y_indexB (o := 0) (j := ((kk : Nat) : Int)) (n := rs.length) (c := q10) (by rw [← hpW]; rfl) rfl el46 sz52 (Int.natCast_nonneg kk) (by omega) (by simp)) ?_
                    refine dr_gm (v := .pointer (some ⟨bW, (kk * 3), none⟩)) (b := decide (x.a ≥ 0)) rfl rfl rfl rfl rfl hge (fun m hm => y_fieldB rfl Try.underlying52 rfl sz49 rfl) ?_
                    refine dr_gm (v := .slice r.po r.l.length r.c) (b := decide (x.a ≥ 0)) rfl rfl rfl rfl rfl hge (fun m hm => y_loadB rfl ag49 hm.1 (app_get g0)) ?_
                    refine dr_gm (v := .slice p10 rs.length q10) (b := decide (x.a ≥ 0)) rfl rfl rfl rfl rfl hge (fun m hm => y_move) ?_
                    refine dr_gm (v := .int .i64 ((kk : Nat) : Int)) (b := decide (x.a ≥ 0)) rfl rfl rfl rfl rfl hge (fun m hm => y_move) ?_
                    refine dr_gm (v := .pointer (some ⟨bW, (kk * 3), none⟩)) (b := decide (x.a ≥ 0)) rfl rfl rfl rfl rfl hge (fun m hm => y_indexB (o := 0) (j := ((kk : Nat) : Int)) (n := rs.length) (c := q10) (by rw [← hpW]; rfl) rfl el46 sz52 (Int.natCast_nonneg kk) (by omega) (by simp)) ?_
                    refine dr_gm (v := .pointer (some ⟨bW, (kk * 3) + 1, none⟩)) (b := decide (x.a ≥ 0)) rfl rfl rfl rfl rfl hge (fun m hm => y_fieldB rfl Try.underlying52 rfl sz3 rfl) ?_
                    refine dr_gm (v := .int .i64 ((p.1 : Nat) : Int)) (b := decide (x.a ≥ 0)) rfl rfl rfl rfl rfl hge (fun m hm => y_loadB rfl ag3 hm.1 (app_get g1)) ?_
                    refine dr_gm (v := .pointer (some ⟨br, (or + p.1 * 3), none⟩)) (b := decide (x.a ≥ 0)) rfl rfl rfl rfl rfl hge (fun m hm => y_indexB (o := or) (j := ((p.1 : Nat) : Int)) (n := r.l.length) (c := r.c) (by rw [← hpr]; rfl) rfl el49 sz57 (Int.natCast_nonneg p.1) (by omega) (by simp)) ?_
                    refine dr_gm (v := .pointer (some ⟨br, (or + p.1 * 3) + 1, none⟩)) (b := decide (x.a ≥ 0)) rfl rfl rfl rfl rfl hge (fun m hm => y_fieldB rfl Try.underlying57 rfl sz3 rfl) ?_
                    refine dr_gm (v := .int .i64 x.a) (b := decide (x.a ≥ 0)) rfl rfl rfl rfl rfl hge (fun m hm => y_loadB rfl ag3 hm.2 x1) ?_
                    refine dr_gm (v := .int .u8 ((nw : Nat) : Int)) (b := decide (x.a ≥ 0)) rfl rfl rfl rfl rfl hge (fun m hm => y_move) ?_
                    refine dr_gm (v := .int .i64 ((nw : Nat) : Int)) (b := decide (x.a ≥ 0)) rfl rfl rfl rfl rfl hge (fun m hm => y_convertW (n := ((nw : Nat) : Int)) rfl Try.underlying5 Try.underlying3 (wrap8 rfl (by omega))) ?_
                    refine dr_gm (v := .bool (decide (x.a < ((nw : Nat) : Int)))) (b := decide (x.a ≥ 0)) rfl rfl rfl rfl rfl hge (fun m hm => y_int (p := x.a) (q := ((nw : Nat) : Int)) rfl rfl rfl) ?_
                    refine dr_m (v := .bool (decide (x.a < ((nw : Nat) : Int)))) rfl rfl (fun m hm => y_pickT (t := decide (x.a ≥ 0)) rfl hge rfl) ?_
                    refine dr_m (v := .bool (decide (x.a < ((nw : Nat) : Int)))) rfl rfl (fun m hm => y_assign) ?_
                    refine dr_end ?_
                    refine w_calm ?_
                    exact w_join hk25 (live_cons rfl (live_cons rfl (live_cons rfl (live_cons rfl (live_cons rfl (live_cons rfl (live_cons rfl (live_cons rfl (live_cons rfl (live_cons rfl (live_cons rfl (live_cons rfl (live_cons rfl (live_cons rfl (live_cons rfl (live_cons rfl (live_cons (by rw [hth]; rfl) live_nil)))))))))))))))))
                · have hce : decide (p.1 < r.l.length) = false := decide_eq_false (by omega)
                  have hth : thB r p nw = false := by unfold thB; rw [List.getElem?_eq_none hc]
                  refine e_calm ?_
                  refine e_draw (fun _ => True) [(0, true), (1, true), (2, true), (3, true), (4, true), (5, true), (6, true), (7, true), (8, true), (9, true), (10, true), (11, true), (12, true), (13, true), (14, true), (15, true), (16, true), (17, true), (18, true), (19, true), (20, true), (21, true), (22, true), (23, true), (24, true), (25, true), (26, true), (27, true), (28, true), (29, true), (30, true), (31, true), (32, true), (33, true), (34, true), (35, true)] mixed (by kernel_rfl) (trivial) (fun _ _ _ _ _ h => h.elim) ?_
                  refine dr_m (v := .bool (decide (p.1 < r.l.length))) rfl rfl (fun m hm => y_move) ?_
                  refine dr_m (v := .bool (decide (p.1 < r.l.length))) rfl rfl (fun m hm => y_move) ?_
                  refine dr_gx (b := decide (p.1 < r.l.length)) rfl rfl rfl rfl rfl hce ?_
                  refine dr_gx (b := decide (p.1 < r.l.length)) rfl rfl rfl rfl rfl hce ?_
                  refine dr_gx (b := decide (p.1 < r.l.length)) rfl rfl rfl rfl rfl hce ?_
                  refine dr_gx (b := decide (p.1 < r.l.length)) rfl rfl rfl rfl rfl hce ?_
                  refine dr_gx (b := decide (p.1 < r.l.length)) rfl rfl rfl rfl rfl hce ?_
                  refine dr_gx (b := decide (p.1 < r.l.length)) rfl rfl rfl rfl rfl hce ?_
                  refine dr_gx (b := decide (p.1 < r.l.length)) rfl rfl rfl rfl rfl hce ?_
                  refine dr_gx (b := decide (p.1 < r.l.length)) rfl rfl rfl rfl rfl hce ?_
                  refine dr_gx (b := decide (p.1 < r.l.length)) rfl rfl rfl rfl rfl hce ?_
                  refine dr_gx (b := decide (p.1 < r.l.length)) rfl rfl rfl rfl rfl hce ?_
                  refine dr_gx (b := decide (p.1 < r.l.length)) rfl rfl rfl rfl rfl hce ?_
                  refine dr_gx (b := decide (p.1 < r.l.length)) rfl rfl rfl rfl rfl hce ?_
                  refine dr_gx (b := decide (p.1 < r.l.length)) rfl rfl rfl rfl rfl hce ?_
                  refine dr_gx (b := decide (p.1 < r.l.length)) rfl rfl rfl rfl rfl hce ?_
                  refine dr_m (v := .bool false) rfl rfl (fun m hm => y_pickF (t := decide (p.1 < r.l.length)) rfl hce rfl) ?_
                  refine dr_m (v := .bool false) rfl rfl (fun m hm => y_move) ?_
                  refine dr_gx (b := false) rfl rfl rfl rfl rfl rfl ?_
                  refine dr_gx (b := false) rfl rfl rfl rfl rfl rfl ?_
                  refine dr_gx (b := false) rfl rfl rfl rfl rfl rfl ?_
                  refine dr_gx (b := false) rfl rfl rfl rfl rfl rfl ?_
                  refine dr_gx (b := false) rfl rfl rfl rfl rfl rfl ?_
                  refine dr_gx (b := false) rfl rfl rfl rfl rfl rfl ?_
                  refine dr_gx (b := false) rfl rfl rfl rfl rfl rfl ?_
                  refine dr_gx (b := false) rfl rfl rfl rfl rfl rfl ?_
                  refine dr_gx (b := false) rfl rfl rfl rfl rfl rfl ?_
                  refine dr_gx (b := false) rfl rfl rfl rfl rfl rfl ?_
                  refine dr_gx (b := false) rfl rfl rfl rfl rfl rfl ?_
                  refine dr_gx (b := false) rfl rfl rfl rfl rfl rfl ?_
                  refine dr_gx (b := false) rfl rfl rfl rfl rfl rfl ?_
                  refine dr_gx (b := false) rfl rfl rfl rfl rfl rfl ?_
                  refine dr_gx (b := false) rfl rfl rfl rfl rfl rfl ?_
                  refine dr_gx (b := false) rfl rfl rfl rfl rfl rfl ?_
                  refine dr_m (v := .bool false) rfl rfl (fun m hm => y_pickF (t := false) rfl rfl rfl) ?_
                  refine dr_m (v := .bool false) rfl rfl (fun m hm => y_assign) ?_
                  refine dr_end ?_
                  refine w_calm ?_
                  exact w_join hk25 (live_cons rfl (live_cons rfl (live_cons rfl (live_cons rfl (live_cons rfl (live_cons rfl (live_cons rfl (live_cons rfl (live_cons rfl (live_cons rfl (live_cons rfl (live_cons rfl (live_cons rfl (live_cons rfl (live_cons rfl (live_cons rfl (live_cons (by rw [hth]; rfl) live_nil)))))))))))))))))
              intro base25
              refine e_then ?_
              refine e_seq ?_
              refine e_reg rfl ?_
              refine l_y (v := .slice p10 rs.length q10) (y_move) ?_
              refine l_y (v := .int .i64 ((kk : Nat) : Int)) (y_move) ?_
              refine l_y (v := .agg #[.slice r.po r.l.length r.c, .int .i64 (((nxP r p s1.ws).1 : Nat) : Int), .int .u64 ((nxP r p s1.ws).2)]) (y_loadNB (n := 3) (l := [.slice r.po r.l.length r.c, .int .i64 (((nxP r p s1.ws).1 : Nat) : Int), .int .u64 ((nxP r p s1.ws).2)]) rfl ag52 sz52 (H6.hv.m (Part.put_same _ _ _)) rfl (Nat.le_refl 3)) ?_
              refine l_y (v := .pointer (some ⟨bW, (kk * 3), none⟩)) (y_indexB (o := 0) (j := ((kk : Nat) : Int)) (n := rs.length) (c := q10) (by rw [← hpW]; rfl) rfl el46 sz52 (Int.natCast_nonneg kk) (by omega) (by simp)) ?_
              refine l_d (d_storeB (v := .agg #[.slice r.po r.l.length r.c, .int .i64 (((nxP r p s1.ws).1 : Nat) : Int), .int .u64 ((nxP r p s1.ws).2)]) (c' := (progsV rs (ps.set kk (nxP r p s1.ws)) ++ restW).toArray) rfl rfl sz52 (H6.hv.m hmW) rfl rfl (by simp; omega) (by show splice _ _ [_, _, _] = _; rw [splice3 (by omega)]; exact congrArg (fun z => (z ++ restW).toArray) (progsV_set rs ps kk r (nxP r p s1.ws) hr (by rw [H1.n2]; exact hkl)))) ?_
              have H7 := H6.write (st := (Well (PW W ba bw bl nw rs.length h3 hro3) Try.prog kd W.heap.size W (PostL W) tab6)) (c := (progsV rs (ps.set kk (nxP r p s1.ws)) ++ restW).toArray) (e := 52) hmW
              have T7 := T5.setW (p := nxP r p s1.ws) (j := kk) H1.n2.symm hwb hmW
              have hl7 := H1.ls kk p hp
              have hls := nxS_ls kk r p s1 hl7
              have hps : (ps.set kk (nxP r p s1.ws))[kk]? = some (nxP r p s1.ws) := List.getElem?_set_self (by rw [H1.n2]; exact hkl)
              have h19O : ((O2.put b19 (.cells #[.slice r.po r.l.length r.c, .int .i64 (((nxP r p s1.ws).1 : Nat) : Int), .int .u64 ((nxP r p s1.ws).2)] 52)).put bW (.cells (progsV rs (ps.set kk (nxP r p s1.ws)) ++ restW).toArray 52)) b19 = some (.cells #[.slice r.po r.l.length r.c, .int .i64 (((nxP r p s1.ws).1 : Nat) : Int), .int .u64 ((nxP r p s1.ws).2)] 52) := (Part.put_ne _ _ hneW.symm).trans (Part.put_same _ _ _)
              obtain ⟨bA, ccA, restA, habA, hA, hmA, hlA, hcA⟩ := SlB.at T7.sa (by omega)
              have hpA := (Value.slice.inj hA).1
              have hag := H7.agB' ha hr hps
              have htc := hbT (nxS_tc kk r p s1)
              rw [H1.lw] at htc
              refine l_end ?_
              refine e_then ?_
              refine e_seq ?_
              refine e_reg rfl ?_
              refine l_y (v := .slice p20 ((nxW r p s1.ws).length) q20) (y_move) ?_
              refine l_y (v := .slice p20 ((nxW r p s1.ws).length) q20) (y_assign) ?_
              refine l_end ?_
              refine e_then ?_
              refine e_seq ?_
              refine e_join [(0, .int .u8 ((nw : Nat) : Int)), (1, .slice pl rs.length cl), (2, .slice po ol.length co), (7, .pointer (some ⟨ba, 0, none⟩)), (9, .slice p9 rs.length q9), (10, .slice p10 rs.length q10), (11, .slice (some ⟨bl, 0, none⟩) rs.length rs.length), (12, .slice p20 ((nxW r p s1.ws).length) q20), (13, .bool true), (17, .int .i64 ((k : Nat) : Int))] ((Mem.mk M6 (Well (PW W ba bw bl nw rs.length h3 hro3) Try.prog kd W.heap.size W (PostL W) tab6)).set bW (.cells (progsV rs (ps.set kk (nxP r p s1.ws)) ++ restW).toArray 52)) ?_ (fun Q28 hk28 => ?_)
              rotate_left
              · rcases Nat.lt_or_ge p.1 r.l.length with hc | hc
                · have hce : decide (p.1 < r.l.length) = true := decide_eq_true hc
                  refine e_calm ?_
                  refine e_draw (fun m => m bl = some (.cells (wordsV (nxS kk r p s1).ls) 31) ∧ m b19 = some (.cells #[.slice r.po r.l.length r.c, .int .i64 (((nxP r p s1.ws).1 : Nat) : Int), .int .u64 ((nxP r p s1.ws).2)] 52) ∧ m ba = some (arB bw (nxS kk r p s1).ws (nxS kk r p s1).tc (nxS kk r p s1).la) ∧ m bA = some (.cells (ptrs gs ++ restA).toArray 22) ∧ m a.a = some (agB a (decide (r.l.length ≤ (nxP r p s1.ws).1)))) [(0, true), (1, true), (2, true), (3, true), (4, true), (5, true), (6, true), (7, true), (8, true), (9, true), (10, true), (11, true), (12, true), (13, true), (14, true), (15, true), (16, true), (17, true), (18, true), (19, true), (20, true), (21, true), (22, true), (23, true), (24, true), (25, true), (26, true), (27, true), (28, true), (29, true), (30, true), (31, true), (32, true), (33, true), (34, true), (35, true), (36, true), (37, true), (38, true), (39, true), (40, true), (41, true), (42, true), (43, true)] mixed (by kernel_rfl) (⟨H7.bl', H7.hv.m h19O, H7.ba', H7.hv.m hmA, hag⟩) (fun _ _ _ _ _ h => h.elim) ?_
                  refine dr_m (v := .int .i64 (if p.1 < r.l.length then 0 else 6)) rfl rfl (fun m hm => y_move) ?_
                  refine dr_m (v := .bool (decide (p.1 < r.l.length))) rfl rfl (fun m hm => y_int (p := (if p.1 < r.l.length then (0 : Int) else 6)) (q := 0) rfl rfl (hbA6 _)) ?_
                  refine dr_m (v := .bool (decide (p.1 < r.l.length))) rfl rfl (fun m hm => y_move) ?_
                  refine dr_m (v := .bool true) rfl rfl (fun m hm => y_eql (r := true) rfl rfl rfl (eqb_self _)) ?_
                  refine dr_m (v := .bool true) rfl rfl (fun m hm => y_move) ?_
                  refine dr_gm (v := .bool (decide (p.1 < r.l.length))) (b := true) rfl rfl rfl rfl rfl rfl (fun m hm => y_move) ?_
                  refine dr_gm (v := .bool (decide (p.1 < r.l.length))) (b := true) rfl rfl rfl rfl rfl rfl (fun m hm => y_move) ?_
                  refine dr_gx (b := decide (p.1 < r.l.length)) rfl rfl rfl rfl rfl hce ?_
                  refine dr_gx (b := decide (p.1 < r.l.length)) rfl rfl rfl rfl rfl hce ?_
                  refine dr_gm (v := .bool true) (b := true) rfl rfl rfl rfl rfl rfl (fun m hm => y_pickT (t := decide (p.1 < r.l.length)) rfl hce rfl) ?_
                  refine dr_m (v := .bool true) rfl rfl (fun m hm => y_pickT (t := true) rfl rfl rfl) ?_
                  refine dr_m (v := .bool true) rfl rfl (fun m hm => y_move) ?_
                  refine dr_gm (v := .slice (some ⟨bl, 0, none⟩) rs.length rs.length) (b := true) rfl rfl rfl rfl rfl rfl (fun m hm => y_move) ?_
                  refine dr_gm (v := .int .i64 ((kk : Nat) : Int)) (b := true) rfl rfl rfl rfl rfl rfl (fun m hm => y_move) ?_
                  refine dr_gm (v := .pointer (some ⟨bl, kk, none⟩)) (b := true) rfl rfl rfl rfl rfl rfl (fun m hm => y_indexB (o := 0) (j := ((kk : Nat) : Int)) (n := rs.length) (c := rs.length) rfl rfl el47 sz31 (Int.natCast_nonneg kk) (by omega) (by simp)) ?_
                  refine dr_gm (v := .int .u64 ((nxP r p s1.ws).2)) (b := true) rfl rfl rfl rfl rfl rfl (fun m hm => y_loadB rfl ag31 hm.1 (wordsV_at hls)) ?_
                  refine dr_gm (v := .pointer (some ⟨b19, 2, none⟩)) (b := true) rfl rfl rfl rfl rfl rfl (fun m hm => y_fieldB rfl Try.underlying52 rfl sz31 rfl) ?_
                  refine dr_gm (v := .int .u64 ((nxP r p s1.ws).2)) (b := true) rfl rfl rfl rfl rfl rfl (fun m hm => y_loadB rfl ag31 hm.2.1 rfl) ?_
                  refine dr_gm (v := .bool true) (b := true) rfl rfl rfl rfl rfl rfl (fun m hm => y_int (p := (nxP r p s1.ws).2) (q := (nxP r p s1.ws).2) rfl rfl (int_eq_self _)) ?_
                  refine dr_m (v := .bool true) rfl rfl (fun m hm => y_pickT (t := true) rfl rfl rfl) ?_
                  refine dr_m (v := .bool true) rfl rfl (fun m hm => y_move) ?_
                  refine dr_gm (v := .pointer (some ⟨ba, 0, none⟩)) (b := true) rfl rfl rfl rfl rfl rfl (fun m hm => y_move) ?_
                  refine dr_gmc (v := .int .u64 ((nxS kk r p s1).tc)) (b := true) rfl rfl rfl rfl rfl rfl (fun m hm => e_call bd23 rfl (l := [.pointer (some ⟨ba, 0, none⟩)]) rfl) (fun m hm => c_Touched ba bw _ _ _ m hm.2.2.1) ?_
                  refine dr_gm (v := .int .u64 s1.tc) (b := true) rfl rfl rfl rfl rfl rfl (fun m hm => y_move) ?_
                  refine dr_gm (v := .int .u64 (IntKind.u64.wrap (s1.tc + 1))) (b := true) rfl rfl rfl rfl rfl rfl (fun m hm => y_int (p := s1.tc) (q := 1) rfl rfl rfl) ?_
                  refine dr_gm (v := .bool (thB r p nw)) (b := true) rfl rfl rfl rfl rfl rfl (fun m hm => y_int (p := (nxS kk r p s1).tc) (q := IntKind.u64.wrap (s1.tc + 1)) rfl rfl htc) ?_
                  refine dr_gm (v := .bool (thB r p nw)) (b := true) rfl rfl rfl rfl rfl rfl (fun m hm => y_move) ?_
                  refine dr_gm (v := .bool true) (b := true) rfl rfl rfl rfl rfl rfl (fun m hm => y_eql (r := true) rfl rfl rfl (eqb_self _)) ?_
                  refine dr_m (v := .bool true) rfl rfl (fun m hm => y_pickT (t := true) rfl rfl rfl) ?_
                  refine dr_m (v := .bool true) rfl rfl (fun m hm => y_move) ?_
                  refine dr_gm (v := .slice p9 rs.length q9) (b := true) rfl rfl rfl rfl rfl rfl (fun m hm => y_move) ?_
                  refine dr_gm (v := .int .i64 ((kk : Nat) : Int)) (b := true) rfl rfl rfl rfl rfl rfl (fun m hm => y_move) ?_
                  refine dr_gm (v := .pointer (some ⟨bA, kk, none⟩)) (b := true) rfl rfl rfl rfl rfl rfl (fun m hm => y_indexB (o := 0) (j := ((kk : Nat) : Int)) (n := rs.length) (c := q9) (by rw [← hpA]; rfl) rfl el39 sz22 (Int.natCast_nonneg kk) (by omega) (by simp)) ?_
                  refine dr_gm (v := .pointer (some ⟨a.a, 0, none⟩)) (b := true) rfl rfl rfl rfl rfl rfl (fun m hm => y_loadB rfl ag22 hm.2.2.2.1 (app_get (ptrs_get ha))) ?_
                  refine dr_gmc (v := .bool (decide (r.l.length ≤ (nxP r p s1.ws).1))) (b := true) rfl rfl rfl rfl rfl rfl (fun m hm => e_call bd14 rfl (l := [.pointer (some ⟨a.a, 0, none⟩)]) rfl) (fun m hm => c_Done a.a 4 _ _ _ _ _ m hm.2.2.2.2) ?_
                  refine dr_gm (v := .pointer (some ⟨b19, 1, none⟩)) (b := true) rfl rfl rfl rfl rfl rfl (fun m hm => y_fieldB rfl Try.underlying52 rfl sz3 rfl) ?_
                  refine dr_gm (v := .int .i64 (((nxP r p s1.ws).1 : Nat) : Int)) (b := true) rfl rfl rfl rfl rfl rfl (fun m hm => y_loadB rfl ag3 hm.2.1 rfl) ?_
                  refine dr_gm (v := .pointer (some ⟨b19, 0, none⟩)) (b := true) rfl rfl rfl rfl rfl rfl (fun m hm => y_fieldB rfl Try.underlying52 rfl sz49 rfl) ?_
                  refine dr_gm (v := .slice r.po r.l.length r.c) (b := true) rfl rfl rfl rfl rfl rfl (fun m hm => y_loadB rfl ag49 hm.2.1 rfl) ?_
                  refine dr_gm (v := .int .i64 ((r.l.length : Nat) : Int)) (b := true) rfl rfl rfl rfl rfl rfl (fun m hm => y_len (b := r.po) (n := r.l.length) (c := r.c) rfl rfl el49) ?_
                  refine dr_gm (v := .bool (decide (r.l.length ≤ (nxP r p s1.ws).1))) (b := true) rfl rfl rfl rfl rfl rfl (fun m hm => y_int (p := (((nxP r p s1.ws).1 : Nat) : Int)) (q := ((r.l.length : Nat) : Int)) rfl rfl hbG) ?_
                  refine dr_gm (v := .bool true) (b := true) rfl rfl rfl rfl rfl rfl (fun m hm => y_eql (r := true) rfl rfl rfl (eqb_self _)) ?_
                  refine dr_m (v := .bool true) rfl rfl (fun m hm => y_pickT (t := true) rfl rfl rfl) ?_
                  refine dr_m (v := .bool true) rfl rfl (fun m hm => y_assign) ?_
                  refine dr_end ?_
                  refine w_calm ?_
                  exact w_join hk28 (live_cons rfl (live_cons rfl (live_cons rfl (live_cons rfl (live_cons rfl (live_cons rfl (live_cons rfl (live_cons rfl (live_cons rfl (live_cons rfl live_nil))))))))))
                · have hce : decide (p.1 < r.l.length) = false := decide_eq_false (by omega)
                  refine e_calm ?_
                  refine e_draw (fun m => m bl = some (.cells (wordsV (nxS kk r p s1).ls) 31) ∧ m b19 = some (.cells #[.slice r.po r.l.length r.c, .int .i64 (((nxP r p s1.ws).1 : Nat) : Int), .int .u64 ((nxP r p s1.ws).2)] 52) ∧ m ba = some (arB bw (nxS kk r p s1).ws (nxS kk r p s1).tc (nxS kk r p s1).la) ∧ m bA = some (.cells (ptrs gs ++ restA).toArray 22) ∧ m a.a = some (agB a (decide (r.l.length ≤ (nxP r p s1.ws).1)))) [(0, true), (1, true), (2, true), (3, true), (4, true), (5, true), (6, true), (7, true), (8, true), (9, true), (10, true), (11, true), (12, true), (13, true), (14, true), (15, true), (16, true), (17, true), (18, true), (19, true), (20, true), (21, true), (22, true), (23, true), (24, true), (25, true), (26, true), (27, true), (28, true), (29, true), (30, true), (31, true), (32, true), (33, true), (34, true), (35, true), (36, true), (37, true), (38, true), (39, true), (40, true), (41, true), (42, true), (43, true)] mixed (by kernel_rfl) (⟨H7.bl', H7.hv.m h19O, H7.ba', H7.hv.m hmA, hag⟩) (fun _ _ _ _ _ h => h.elim) ?_
                  refine dr_m (v := .int .i64 (if p.1 < r.l.length then 0 else 6)) rfl rfl (fun m hm => y_move) ?_
                  refine dr_m (v := .bool (decide (p.1 < r.l.length))) rfl rfl (fun m hm => y_int (p := (if p.1 < r.l.length then (0 : Int) else 6)) (q := 0) rfl rfl (hbA6 _)) ?_
                  refine dr_m (v := .bool (decide (p.1 < r.l.length))) rfl rfl (fun m hm => y_move) ?_
                  refine dr_m (v := .bool true) rfl rfl (fun m hm => y_eql (r := true) rfl rfl rfl (eqb_self _)) ?_
                  refine dr_m (v := .bool true) rfl rfl (fun m hm => y_move) ?_
                  refine dr_gm (v := .bool (decide (p.1 < r.l.length))) (b := true) rfl rfl rfl rfl rfl rfl (fun m hm => y_move) ?_
                  refine dr_gm (v := .bool (decide (p.1 < r.l.length))) (b := true) rfl rfl rfl rfl rfl rfl (fun m hm => y_move) ?_
                  refine dr_gm (v := .int .i64 (if p.1 < r.l.length then 0 else 6)) (b := decide (p.1 < r.l.length)) rfl rfl rfl rfl rfl hce (fun m hm => y_move) ?_
                  refine dr_gm (v := .bool true) (b := decide (p.1 < r.l.length)) rfl rfl rfl rfl rfl hce (fun m hm => y_int (p := (if p.1 < r.l.length then (0 : Int) else 6)) (q := 6) rfl rfl (hbB6 (by omega))) ?_
                  refine dr_gm (v := .bool true) (b := true) rfl rfl rfl rfl rfl rfl (fun m hm => y_pickF (t := decide (p.1 < r.l.length)) rfl hce rfl) ?_
                  refine dr_m (v := .bool true) rfl rfl (fun m hm => y_pickT (t := true) rfl rfl rfl) ?_
                  refine dr_m (v := .bool true) rfl rfl (fun m hm => y_move) ?_
                  refine dr_gm (v := .slice (some ⟨bl, 0, none⟩) rs.length rs.length) (b := true) rfl rfl rfl rfl rfl rfl (fun m hm => y_move) ?_
                  refine dr_gm (v := .int .i64 ((kk : Nat) : Int)) (b := true) rfl rfl rfl rfl rfl rfl (fun m hm => y_move) ?_
                  refine dr_gm (v := .pointer (some ⟨bl, kk, none⟩)) (b := true) rfl rfl rfl rfl rfl rfl (fun m hm => y_indexB (o := 0) (j := ((kk : Nat) : Int)) (n := rs.length) (c := rs.length) rfl rfl el47 sz31 (Int.natCast_nonneg kk) (by omega) (by simp)) ?_
                  refine dr_gm (v := .int .u64 ((nxP r p s1.ws).2)) (b := true) rfl rfl rfl rfl rfl rfl (fun m hm => y_loadB rfl ag31 hm.1 (wordsV_at hls)) ?_
                  refine dr_gm (v := .pointer (some ⟨b19, 2, none⟩)) (b := true) rfl rfl rfl rfl rfl rfl (fun m hm => y_fieldB rfl Try.underlying52 rfl sz31 rfl) ?_
                  refine dr_gm (v := .int .u64 ((nxP r p s1.ws).2)) (b := true) rfl rfl rfl rfl rfl rfl (fun m hm => y_loadB rfl ag31 hm.2.1 rfl) ?_
                  refine dr_gm (v := .bool true) (b := true) rfl rfl rfl rfl rfl rfl (fun m hm => y_int (p := (nxP r p s1.ws).2) (q := (nxP r p s1.ws).2) rfl rfl (int_eq_self _)) ?_
                  refine dr_m (v := .bool true) rfl rfl (fun m hm => y_pickT (t := true) rfl rfl rfl) ?_
                  refine dr_m (v := .bool true) rfl rfl (fun m hm => y_move) ?_
                  refine dr_gm (v := .pointer (some ⟨ba, 0, none⟩)) (b := true) rfl rfl rfl rfl rfl rfl (fun m hm => y_move) ?_
                  refine dr_gmc (v := .int .u64 ((nxS kk r p s1).tc)) (b := true) rfl rfl rfl rfl rfl rfl (fun m hm => e_call bd23 rfl (l := [.pointer (some ⟨ba, 0, none⟩)]) rfl) (fun m hm => c_Touched ba bw _ _ _ m hm.2.2.1) ?_
                  refine dr_gm (v := .int .u64 s1.tc) (b := true) rfl rfl rfl rfl rfl rfl (fun m hm => y_move) ?_
                  refine dr_gm (v := .int .u64 (IntKind.u64.wrap (s1.tc + 1))) (b := true) rfl rfl rfl rfl rfl rfl (fun m hm => y_int (p := s1.tc) (q := 1) rfl rfl rfl) ?_
                  refine dr_gm (v := .bool (thB r p nw)) (b := true) rfl rfl rfl rfl rfl rfl (fun m hm => y_int (p := (nxS kk r p s1).tc) (q := IntKind.u64.wrap (s1.tc + 1)) rfl rfl htc) ?_
                  refine dr_gm (v := .bool (thB r p nw)) (b := true) rfl rfl rfl rfl rfl rfl (fun m hm => y_move) ?_
                  refine dr_gm (v := .bool true) (b := true) rfl rfl rfl rfl rfl rfl (fun m hm => y_eql (r := true) rfl rfl rfl (eqb_self _)) ?_
                  refine dr_m (v := .bool true) rfl rfl (fun m hm => y_pickT (t := true) rfl rfl rfl) ?_
                  refine dr_m (v := .bool true) rfl rfl (fun m hm => y_move) ?_
                  refine dr_gm (v := .slice p9 rs.length q9) (b := true) rfl rfl rfl rfl rfl rfl (fun m hm => y_move) ?_
                  refine dr_gm (v := .int .i64 ((kk : Nat) : Int)) (b := true) rfl rfl rfl rfl rfl rfl (fun m hm => y_move) ?_
                  refine dr_gm (v := .pointer (some ⟨bA, kk, none⟩)) (b := true) rfl rfl rfl rfl rfl rfl (fun m hm => y_indexB (o := 0) (j := ((kk : Nat) : Int)) (n := rs.length) (c := q9) (by rw [← hpA]; rfl) rfl el39 sz22 (Int.natCast_nonneg kk) (by omega) (by simp)) ?_
                  refine dr_gm (v := .pointer (some ⟨a.a, 0, none⟩)) (b := true) rfl rfl rfl rfl rfl rfl (fun m hm => y_loadB rfl ag22 hm.2.2.2.1 (app_get (ptrs_get ha))) ?_
                  refine dr_gmc (v := .bool (decide (r.l.length ≤ (nxP r p s1.ws).1))) (b := true) rfl rfl rfl rfl rfl rfl (fun m hm => e_call bd14 rfl (l := [.pointer (some ⟨a.a, 0, none⟩)]) rfl) (fun m hm => c_Done a.a 4 _ _ _ _ _ m hm.2.2.2.2) ?_
                  refine dr_gm (v := .pointer (some ⟨b19, 1, none⟩)) (b := true) rfl rfl rfl rfl rfl rfl (fun m hm => y_fieldB rfl Try.underlying52 rfl sz3 rfl) ?_
                  refine dr_gm (v := .int .i64 (((nxP r p s1.ws).1 : Nat) : Int)) (b := true) rfl rfl rfl rfl rfl rfl (fun m hm => y_loadB rfl ag3 hm.2.1 rfl) ?_
                  refine dr_gm (v := .pointer (some ⟨b19, 0, none⟩)) (b := true) rfl rfl rfl rfl rfl rfl (fun m hm => y_fieldB rfl Try.underlying52 rfl sz49 rfl) ?_
                  refine dr_gm (v := .slice r.po r.l.length r.c) (b := true) rfl rfl rfl rfl rfl rfl (fun m hm => y_loadB rfl ag49 hm.2.1 rfl) ?_
                  refine dr_gm (v := .int .i64 ((r.l.length : Nat) : Int)) (b := true) rfl rfl rfl rfl rfl rfl (fun m hm => y_len (b := r.po) (n := r.l.length) (c := r.c) rfl rfl el49) ?_
                  refine dr_gm (v := .bool (decide (r.l.length ≤ (nxP r p s1.ws).1))) (b := true) rfl rfl rfl rfl rfl rfl (fun m hm => y_int (p := (((nxP r p s1.ws).1 : Nat) : Int)) (q := ((r.l.length : Nat) : Int)) rfl rfl hbG) ?_
                  refine dr_gm (v := .bool true) (b := true) rfl rfl rfl rfl rfl rfl (fun m hm => y_eql (r := true) rfl rfl rfl (eqb_self _)) ?_
                  refine dr_m (v := .bool true) rfl rfl (fun m hm => y_pickT (t := true) rfl rfl rfl) ?_
                  refine dr_m (v := .bool true) rfl rfl (fun m hm => y_assign) ?_
                  refine dr_end ?_
                  refine w_calm ?_
                  exact w_join hk28 (live_cons rfl (live_cons rfl (live_cons rfl (live_cons rfl (live_cons rfl (live_cons rfl (live_cons rfl (live_cons rfl (live_cons rfl (live_cons rfl live_nil))))))))))
              intro base28
              refine e_then ?_
              refine e_seq ?_
              refine e_reg rfl ?_
              refine l_y (v := .pointer (some ⟨ba, 0, none⟩)) (y_move) ?_
              refine l_c (e_call bd24 rfl (l := [.pointer (some ⟨ba, 0, none⟩)]) rfl) (c_All ba bw (nxS kk r p s1).ws (nxS kk r p s1).tc (nxS kk r p s1).la _ H7.ba' H7.bw' (by rw [H7.lw]; omega) (by rw [H7.lw]; omega)) ?_
              rintro e m' ⟨b25, c25, rest25, h25, ⟨hn1, hn2⟩, rfl, rfl⟩
              have H8 := H7.new (c := (wordsL (nxS kk r p s1).ws ++ rest25).toArray) (e := 31) h25
              have T8 := T7.new (x := .cells (wordsL (nxS kk r p s1).ws ++ rest25).toArray 31) (H7.hv.fresh h25)
              have hws : (nxS kk r p s1).ws = nxW r p s1.ws := nxS_ws kk r p s1
              have hlw : (nxW r p s1.ws).length = nw := (nxW_len _ _ _).trans H1.lw
              have hlw2 : (nxS kk r p s1).ws.length = nw := by rw [hws]; exact hlw
              obtain ⟨bM, ccM, restM, hbM, hM, hmM, hlM, hcM⟩ := SlB.at T8.sm (by omega)
              have hpM := (Value.slice.inj hM).1
              have hmN : ((Mem.mk M6 (Well (PW W ba bw bl nw rs.length h3 hro3) Try.prog kd W.heap.size W (PostL W) tab6)).set bW (.cells (progsV rs (ps.set kk (nxP r p s1.ws)) ++ restW).toArray 52)).set b25 (.cells (wordsL (nxS kk r p s1).ws ++ rest25).toArray 31) b25 = some (.cells (wordsL (nxS kk r p s1).ws ++ rest25).toArray 31) := Mem.hit _ _ _
              refine l_y (v := .slice (some ⟨b25, 0, none⟩) ((nxS kk r p s1).ws.length) c25) (y_assign) ?_
              refine l_end ?_
              refine e_then ?_
              refine e_seq ?_
              refine e_reg rfl ?_
              refine l_y (v := .int .i64 0) (y_assign) ?_
              refine l_end ?_
              refine e_then ?_
              refine e_block ?_
              refine e_loop (σ := Nat) (live := fun s => [(0, .int .u8 ((nw : Nat) : Int)), (1, .slice pl rs.length cl), (2, .slice po ol.length co), (7, .pointer (some ⟨ba, 0, none⟩)), (9, .slice p9 rs.length q9), (10, .slice p10 rs.length q10), (11, .slice (some ⟨bl, 0, none⟩) rs.length rs.length), (12, .slice p20 ((nxW r p s1.ws).length) q20), (13, .bool true), (17, .int .i64 ((k : Nat) : Int)), (25, .slice (some ⟨b25, 0, none⟩) ((nxS kk r p s1).ws.length) c25), (26, .int .i64 ((s : Nat) : Int))]) (mem := fun _ => ((Mem.mk M6 (Well (PW W ba bw bl nw rs.length h3 hro3) Try.prog kd W.heap.size W (PostL W) tab6)).set bW (.cells (progsV rs (ps.set kk (nxP r p s1.ws)) ++ restW).toArray 52)).set b25 (.cells (wordsL (nxS kk r p s1).ws ++ rest25).toArray 31)) (I := fun s => s ≤ nw) (μ := fun s => nw - s) 0 (Nat.zero_le _) rfl (live_cons rfl (live_cons rfl (live_cons rfl (live_cons rfl (live_cons rfl (live_cons rfl (live_cons rfl (live_cons rfl (live_cons rfl (live_cons rfl (live_cons rfl (live_cons rfl live_nil)))))))))))) ?_
              rintro j4 base4 hj4
              refine e_seq ?_
              refine e_seq ?_
              refine e_reg rfl ?_
              refine l_y (v := .int .i64 ((j4 : Nat) : Int)) (y_move) ?_
              refine l_y (v := .slice p20 ((nxW r p s1.ws).length) q20) (y_move) ?_
              refine l_y (v := .int .i64 (((nxW r p s1.ws).length : Nat) : Int)) (y_len (b := p20) (n := (nxW r p s1.ws).length) (c := q20) rfl rfl el47) ?_
              refine l_y (v := .bool (decide (((j4 : Nat) : Int) < (((nxW r p s1.ws).length : Nat) : Int)))) (y_int (p := ((j4 : Nat) : Int)) (q := (((nxW r p s1.ws).length : Nat) : Int)) rfl rfl rfl) ?_
              refine l_end ?_
              refine e_then ?_
              refine e_if (t := decide (((j4 : Nat) : Int) < (((nxW r p s1.ws).length : Nat) : Int))) rfl (fun c7 => ?_) (fun c7 => ?_)
              · refine e_skip ?_
                refine e_then ?_
                refine e_seq ?_
                refine e_block ?_
                have hlt4 : j4 < nw := by simp at c7; omega
                refine e_calm ?_
                refine e_draw (fun m => m b25 = some (.cells (wordsL (nxS kk r p s1).ws ++ rest25).toArray 31) ∧ m bM = some (.cells (wordsL (nxW r p s1.ws) ++ restM).toArray 31)) [(0, true), (1, true), (2, true), (3, true), (4, true), (5, true), (6, true), (7, true), (8, true), (9, true), (10, true), (11, true), (12, true), (13, true), (14, true), (15, true), (16, true), (17, true), (18, true)] mixed (by kernel_rfl) (⟨hmN, H8.hv.m hmM⟩) (fun _ _ _ _ _ h => h.elim) ?_
                refine dr_m (v := .bool true) rfl rfl (fun m hm => y_move) ?_
                refine dr_m (v := .bool true) rfl rfl (fun m hm => y_move) ?_
                refine dr_gm (v := .int .i64 ((j4 : Nat) : Int)) (b := true) rfl rfl rfl rfl rfl rfl (fun m hm => y_move) ?_
                refine dr_gm (v := .slice (some ⟨b25, 0, none⟩) ((nxS kk r p s1).ws.length) c25) (b := true) rfl rfl rfl rfl rfl rfl (fun m hm => y_move) ?_
                refine dr_gm (v := .int .i64 (((nxS kk r p s1).ws.length : Nat) : Int)) (b := true) rfl rfl rfl rfl rfl rfl (fun m hm => y_len (b := (some ⟨b25, 0, none⟩)) (n := (nxS kk r p s1).ws.length) (c := c25) rfl rfl el47) ?_
                refine dr_gm (v := .bool true) (b := true) rfl rfl rfl rfl rfl rfl (fun m hm => y_int (p := ((j4 : Nat) : Int)) (q := (((nxS kk r p s1).ws.length : Nat) : Int)) rfl rfl (hbL (by omega))) ?_
                refine dr_m (v := .bool true) rfl rfl (fun m hm => y_pickT (t := true) rfl rfl rfl) ?_
                refine dr_m (v := .bool true) rfl rfl (fun m hm => y_move) ?_
                refine dr_gm (v := .slice (some ⟨b25, 0, none⟩) ((nxS kk r p s1).ws.length) c25) (b := true) rfl rfl rfl rfl rfl rfl (fun m hm => y_move) ?_
                refine dr_gm (v := .int .i64 ((j4 : Nat) : Int)) (b := true) rfl rfl rfl rfl rfl rfl (fun m hm => y_move) ?_
                refine dr_gm (v := .pointer (some ⟨b25, j4, none⟩)) (b := true) rfl rfl rfl rfl rfl rfl (fun m hm => y_indexB (o := 0) (j := ((j4 : Nat) : Int)) (n := (nxS kk r p s1).ws.length) (c := c25) rfl rfl el47 sz31 (Int.natCast_nonneg j4) (by omega) (by simp)) ?_
                refine dr_gm (v := .int .u64 ((nxW r p s1.ws).getD j4 0)) (b := true) rfl rfl rfl rfl rfl rfl (fun m hm => y_loadB rfl ag31 hm.1 (app_get (by rw [hws]; exact wl_get (by omega)))) ?_
                refine dr_gm (v := .slice p20 ((nxW r p s1.ws).length) q20) (b := true) rfl rfl rfl rfl rfl rfl (fun m hm => y_move) ?_
                refine dr_gm (v := .int .i64 ((j4 : Nat) : Int)) (b := true) rfl rfl rfl rfl rfl rfl (fun m hm => y_move) ?_
                refine dr_gm (v := .pointer (some ⟨bM, j4, none⟩)) (b := true) rfl rfl rfl rfl rfl rfl (fun m hm => y_indexB (o := 0) (j := ((j4 : Nat) : Int)) (n := (nxW r p s1.ws).length) (c := q20) (by rw [← hpM]; rfl) rfl el47 sz31 (Int.natCast_nonneg j4) (by omega) (by simp)) ?_
                refine dr_gm (v := .int .u64 ((nxW r p s1.ws).getD j4 0)) (b := true) rfl rfl rfl rfl rfl rfl (fun m hm => y_loadB rfl ag31 hm.2 (app_get (wl_get (by omega)))) ?_
                refine dr_gm (v := .bool true) (b := true) rfl rfl rfl rfl rfl rfl (fun m hm => y_int (p := ((nxW r p s1.ws).getD j4 0)) (q := ((nxW r p s1.ws).getD j4 0)) rfl rfl (int_eq_self _)) ?_
                refine dr_m (v := .bool true) rfl rfl (fun m hm => y_pickT (t := true) rfl rfl rfl) ?_
                refine dr_m (v := .bool true) rfl rfl (fun m hm => y_assign) ?_
                refine dr_end ?_
                refine w_calm ?_
                refine w_block rfl ?_
                refine e_then ?_
                have hwrap : IntKind.i64.wrap (((j4 : Nat) : Int) + 1) = ((j4 + 1 : Nat) : Int) := wrap8 rfl (x := j4 + 1) (by omega)
                refine e_reg rfl ?_
                refine l_y (v := .int .i64 ((j4 : Nat) : Int)) (y_move) ?_
                refine l_y (v := .int .i64 ((j4 + 1 : Nat) : Int)) (y_int (p := ((j4 : Nat) : Int)) (q := 1) rfl rfl (by rw [← hwrap]; rfl)) ?_
                refine l_y (v := .int .i64 ((j4 + 1 : Nat) : Int)) (y_assign) ?_
                refine l_end ?_
                refine Sp.w_round (σ := Nat) (s := j4) (s' := j4 + 1) (by omega) (by omega) rfl (fun _ => (live_cons rfl (live_cons rfl (live_cons rfl (live_cons rfl (live_cons rfl (live_cons rfl (live_cons rfl (live_cons rfl (live_cons rfl (live_cons rfl (live_cons rfl (live_cons rfl live_nil)))))))))))))
              · refine e_exit ?_
                refine w_then rfl ?_
                refine w_then rfl ?_
                refine w_exit ?_
                refine w_block rfl ?_
                refine e_then ?_
                have hwrap : IntKind.i64.wrap (((k : Nat) : Int) + 1) = ((k + 1 : Nat) : Int) := wrap8 rfl (x := k + 1) (by omega)
                refine e_reg rfl ?_
                refine l_y (v := .int .i64 ((k : Nat) : Int)) (y_move) ?_
                refine l_y (v := .int .i64 ((k + 1 : Nat) : Int)) (y_int (p := ((k : Nat) : Int)) (q := 1) rfl rfl (by rw [← hwrap]; rfl)) ?_
                refine l_y (v := .int .i64 ((k + 1 : Nat) : Int)) (y_assign) ?_
                refine l_end ?_
                have T9 := T8.cast (nxS_ws kk r p s1).symm
                refine Sp.w_round (σ := B4) (s := ⟨k, ps, s1, tab1, M1, O1, .slice p12 nw q12, mb⟩) (s' := ⟨k + 1, ps.set kk (nxP r p s1.ws), nxS kk r p s1, tab6, (((Mem.mk M6 (Well (PW W ba bw bl nw rs.length h3 hro3) Try.prog kd W.heap.size W (PostL W) tab6)).set bW (.cells (progsV rs (ps.set kk (nxP r p s1.ws)) ++ restW).toArray 52)).set b25 (.cells (wordsL (nxS kk r p s1).ws ++ rest25).toArray 31)).at_, (((O2.put b19 (.cells #[.slice r.po r.l.length r.c, .int .i64 (((nxP r p s1.ws).1 : Nat) : Int), .int .u64 ((nxP r p s1.ws).2)] 52)).put bW (.cells (progsV rs (ps.set kk (nxP r p s1.ws)) ++ restW).toArray 52)).put b25 (.cells (wordsL (nxS kk r p s1).ws ++ rest25).toArray 31)), .slice p20 (nxW r p s1.ws).length q20, b20⟩) ?_ ?_ ?_ ?_
                · exact ⟨hlt, H8, T9⟩
                · dsimp only; omega
                · rfl
                · exact fun _ => (live_cons rfl (live_cons rfl (live_cons rfl (live_cons rfl (live_cons rfl (live_cons rfl (live_cons rfl (live_cons rfl (live_cons rfl (live_cons rfl live_nil))))))))))
            · refine g_x (b := decide (((rs.length : Nat) : Int) > 0)) rfl rfl rfl c6 ?_
              refine l_y (v := .bool false) (y_pickF (t := decide (((rs.length : Nat) : Int) > 0)) rfl c6 rfl) ?_
              refine l_end ?_
              refine e_then ?_
              refine e_ifF (t := false) rfl rfl ?_
              refine e_exit ?_
              refine w_then rfl ?_
              refine w_then rfl ?_
              refine w_exit ?_
              refine r_way ?_
              repeat (refine r_seq ?_)
              refine r_code (by decide) ?_
              refine e_reg rfl ?_
              refine l_y (v := .pointer (some ⟨ba, 0, none⟩)) (y_move) ?_
              refine l_cr (e_call bd23 rfl (l := [.pointer (some ⟨ba, 0, none⟩)]) rfl) (c_Touched ba bw s1.ws s1.tc s1.la _ H1.ba') ?_
              refine l_y (v := .int .u64 s1.tc) (y_assign) ?_
              refine l_end ?_
              refine r_way ?_
              repeat (refine r_seq ?_)
              refine r_code (by decide) ?_
              refine e_reg rfl ?_
              refine l_y (v := .int .i64 0) (y_assign) ?_
              refine l_end ?_
              refine r_way ?_
              repeat (refine r_seq ?_)
              refine r_code (by decide) ?_
              refine e_block ?_
              refine e_loop (σ := B5) (live := fun s => [(7, .pointer (some ⟨ba, 0, none⟩)), (9, .slice p9 rs.length q9), (13, .bool true), (27, .int .u64 s1.tc), (28, .int .i64 ((s.k : Nat) : Int))]) (mem := fun s => ⟨s.M, (Well (PW W ba bw bl nw rs.length h3 hro3) Try.prog kd W.heap.size W (PostL W) s.tab)⟩) (I := fun s => s.k ≤ rs.length ∧ (∀ j r p, j < s.k → rs[j]? = some r → s.ps[j]? = some p → r.l.length ≤ p.1) ∧ Pl W ba bw bl nw rs.length h3 hro3 rs gs s.ps s1 s.tab s.M O1) (μ := fun s => rs.length - s.k) ⟨0, ps, tab1, M1⟩ ⟨Nat.zero_le _, fun j _ _ hj => absurd hj (Nat.not_lt_zero j), H1⟩ rfl (live_cons rfl (live_cons rfl (live_cons rfl (live_cons rfl (live_cons rfl live_nil))))) ?_
              rintro ⟨k6, ps6, tab6, M6⟩ base6 ⟨hk6, hz, H6⟩
              dsimp only at hk6 hz H6 ⊢
              refine e_seq ?_
              refine e_seq ?_
              refine e_reg rfl ?_
              refine l_y (v := .int .i64 ((k6 : Nat) : Int)) (y_move) ?_
              refine l_y (v := .slice p9 rs.length q9) (y_move) ?_
              refine l_y (v := .int .i64 ((rs.length : Nat) : Int)) (y_len (b := p9) (n := rs.length) (c := q9) rfl rfl el39) ?_
              refine l_y (v := .bool (decide (((k6 : Nat) : Int) < ((rs.length : Nat) : Int)))) (y_int (p := ((k6 : Nat) : Int)) (q := ((rs.length : Nat) : Int)) rfl rfl rfl) ?_
              refine l_end ?_
              refine e_then ?_
              refine e_if (t := decide (((k6 : Nat) : Int) < ((rs.length : Nat) : Int))) rfl (fun c8 => ?_) (fun c8 => ?_)
              · refine e_skip ?_
                refine e_then ?_
                refine e_seq ?_
                refine e_block ?_
                refine e_seq ?_
                have hlt : k6 < rs.length := by simp at c8; omega
                obtain ⟨a, ha⟩ : ∃ a, gs[k6]? = some a := ⟨_, List.getElem?_eq_getElem (by rw [hgl]; exact hlt)⟩
                obtain ⟨r, hr⟩ : ∃ r, rs[k6]? = some r := ⟨_, List.getElem?_eq_getElem hlt⟩
                obtain ⟨p, hp⟩ : ∃ p, ps6[k6]? = some p := ⟨_, List.getElem?_eq_getElem (by rw [H6.n2]; exact hlt)⟩
                obtain ⟨b9, cc9, rest9, hab, h9, hm9, hl9, hc9⟩ := SlB.at T1.sa (by omega)
                have hp9 := (Value.slice.inj h9).1
                refine e_reg rfl ?_
                refine l_y (v := .slice p9 rs.length q9) (y_move) ?_
                refine l_y (v := .int .i64 ((k6 : Nat) : Int)) (y_move) ?_
                refine l_y (v := .pointer (some ⟨b9, k6, none⟩)) (y_indexB (o := 0) (j := ((k6 : Nat) : Int)) (n := rs.length) (c := q9) (by rw [← hp9]; rfl) rfl el39 sz22 (Int.natCast_nonneg k6) (by omega) (by simp)) ?_
                refine l_y (v := .pointer (some ⟨a.a, 0, none⟩)) (y_loadB rfl ag22 (H6.hv.m hm9) (app_get (ptrs_get ha))) ?_
                refine l_c (e_call bd9 rfl (l := [.pointer (some ⟨a.a, 0, none⟩)]) rfl) (H6.stop (N := W.heap.size) (Post := PostL W) ha hr hp) ?_
                rintro e m' ⟨rfl, M7, tab7, n7, rfl, hn7, H7⟩
                have hps : (ps6.set k6 (n7, p.2))[k6]? = some (n7, p.2) := List.getElem?_set_self (by rw [H6.n2]; exact hlt)
                have hag : M7 a.a = some (agB a true) := (H7.agB' ha hr hps).trans (congrArg (fun z => some (agB a z)) (decide_eq_true hn7))
                refine l_end ?_
                refine e_then ?_
                refine e_reg rfl ?_
                refine l_y (v := .bool true) (y_move) ?_
                refine l_y (v := .bool true) (y_move) ?_
                refine g_y (v := .slice p9 rs.length q9) (b := true) rfl rfl rfl rfl (y_move) ?_
                refine g_y (v := .int .i64 ((k6 : Nat) : Int)) (b := true) rfl rfl rfl rfl (y_move) ?_
                refine g_y (v := .pointer (some ⟨b9, k6, none⟩)) (b := true) rfl rfl rfl rfl (y_indexB (o := 0) (j := ((k6 : Nat) : Int)) (n := rs.length) (c := q9) (by rw [← hp9]; rfl) rfl el39 sz22 (Int.natCast_nonneg k6) (by omega) (by simp)) ?_
                refine g_y (v := .pointer (some ⟨a.a, 0, none⟩)) (b := true) rfl rfl rfl rfl (y_loadB rfl ag22 (H7.hv.m hm9) (app_get (ptrs_get ha))) ?_
                refine g_cr (b := true) rfl rfl rfl rfl (e_call bd14 rfl (l := [.pointer (some ⟨a.a, 0, none⟩)]) rfl) (c_Done a.a 4 _ _ _ _ true _ hag) ?_
                refine l_y (v := .bool true) (y_pickT (t := true) rfl rfl rfl) ?_
                refine l_y (v := .bool true) (y_move) ?_
                refine g_y (v := .slice p9 rs.length q9) (b := true) rfl rfl rfl rfl (y_move) ?_
                refine g_y (v := .int .i64 ((k6 : Nat) : Int)) (b := true) rfl rfl rfl rfl (y_move) ?_
                refine g_y (v := .pointer (some ⟨b9, k6, none⟩)) (b := true) rfl rfl rfl rfl (y_indexB (o := 0) (j := ((k6 : Nat) : Int)) (n := rs.length) (c := q9) (by rw [← hp9]; rfl) rfl el39 sz22 (Int.natCast_nonneg k6) (by omega) (by simp)) ?_
                refine g_y (v := .pointer (some ⟨a.a, 0, none⟩)) (b := true) rfl rfl rfl rfl (y_loadB rfl ag22 (H7.hv.m hm9) (app_get (ptrs_get ha))) ?_
                refine g_cr (b := true) rfl rfl rfl rfl (e_call bd13 rfl (l := [.pointer (some ⟨a.a, 0, none⟩)]) rfl) (c_Step_done a.a 4 _ _ _ _ _ hag) ?_
                refine g_y (v := .bool true) (b := true) rfl rfl rfl rfl (y_int (p := 6) (q := 0) rfl rfl rfl) ?_
                refine l_y (v := .bool true) (y_pickT (t := true) rfl rfl rfl) ?_
                refine l_y (v := .bool true) (y_assign) ?_
                refine l_end ?_
                refine w_block rfl ?_
                refine e_then ?_
                have hwrap : IntKind.i64.wrap (((k6 : Nat) : Int) + 1) = ((k6 + 1 : Nat) : Int) := wrap8 rfl (x := k6 + 1) (by omega)
                refine e_reg rfl ?_
                refine l_y (v := .int .i64 ((k6 : Nat) : Int)) (y_move) ?_
                refine l_y (v := .int .i64 ((k6 + 1 : Nat) : Int)) (y_int (p := ((k6 : Nat) : Int)) (q := 1) rfl rfl (by rw [← hwrap]; rfl)) ?_
                refine l_y (v := .int .i64 ((k6 + 1 : Nat) : Int)) (y_assign) ?_
                refine l_end ?_
                refine Sp.w_round (σ := B5) (s := ⟨k6, ps6, tab6, M6⟩) (s' := ⟨k6 + 1, ps6.set k6 (n7, p.2), tab7, M7⟩) ?_ ?_ ?_ ?_
                · refine ⟨hlt, fun j r' p' hj h1 h2 => ?_, H7⟩
                  by_cases e : k6 = j
                  · subst e; rw [hps] at h2; cases h2; rw [hr] at h1; cases h1; exact hn7
                  · dsimp only at hj h2; rw [List.getElem?_set_ne e] at h2; exact hz j r' p' (by omega) h1 h2
                · dsimp only; omega
                · rfl
                · exact fun _ => (live_cons rfl (live_cons rfl (live_cons rfl (live_cons rfl (live_cons rfl live_nil)))))
              · refine e_exit ?_
                refine w_then rfl ?_
                refine w_then rfl ?_
                refine w_exit ?_
                refine r_way ?_
                repeat (refine r_seq ?_)
                refine r_code (by decide) ?_
                have hke : k6 = rs.length := by simp at c8; omega
                subst hke
                have hfin : tab6 = fun _ => none := H6.fin fun j r p h1 h2 => hz j r p (List.getElem?_eq_some_iff.1 h1).1 h1 h2
                subst hfin
                refine e_reg rfl ?_
                refine l_y (v := .bool true) (y_move) ?_
                refine l_y (v := .bool true) (y_move) ?_
                refine g_y (v := .pointer (some ⟨ba, 0, none⟩)) (b := true) rfl rfl rfl rfl (y_move) ?_
                refine g_cr (b := true) rfl rfl rfl rfl (e_call bd23 rfl (l := [.pointer (some ⟨ba, 0, none⟩)]) rfl) (c_Touched ba bw s1.ws s1.tc s1.la _ H6.ba') ?_
                refine g_y (v := .int .u64 s1.tc) (b := true) rfl rfl rfl rfl (y_move) ?_
                refine g_y (v := .bool true) (b := true) rfl rfl rfl rfl (y_int (p := s1.tc) (q := s1.tc) rfl rfl (int_eq_self _)) ?_
                refine l_y (v := .bool true) (y_pickT (t := true) rfl rfl rfl) ?_
                refine l_y (v := .bool true) (y_move) ?_
                refine g_c (b := true) rfl rfl rfl rfl (e_call bd15 rfl (l := []) rfl) (c_wakes (L := (PW W ba bw bl nw rs.length h3 hro3)) (N := W.heap.size) (W := W) (Post := PostL W) (M := M6) H6.hv.mn.ro) ?_
                rintro e m' ⟨hst, rfl⟩
                refine l_y (v := .bool true) (y_pickT (t := true) rfl rfl rfl) ?_
                refine l_y (v := .bool true) (y_assign) ?_
                refine l_end ?_
                refine r_way ?_
                repeat (refine r_seq ?_)
                refine r_code (by decide) ?_
                refine e_ret ?_
                exact law_way Try.func5 rfl (by kernel_rfl) (fun w hw => ⟨rfl, hw⟩) rfl hst
          · refine g_x (b := decide (((k : Nat) : Int) < ((ol.length : Nat) : Int))) rfl rfl rfl c5 ?_
            refine g_x (b := decide (((k : Nat) : Int) < ((ol.length : Nat) : Int))) rfl rfl rfl c5 ?_
            refine g_x (b := decide (((k : Nat) : Int) < ((ol.length : Nat) : Int))) rfl rfl rfl c5 ?_
            refine l_y (v := .bool false) (y_pickF (t := decide (((k : Nat) : Int) < ((ol.length : Nat) : Int))) rfl c5 rfl) ?_
            refine l_y (v := .bool false) (y_move) ?_
            refine g_x (b := false) rfl rfl rfl rfl ?_
            refine l_y (v := .bool false) (y_pickF (t := false) rfl rfl rfl) ?_
            refine l_end ?_
            refine e_then ?_
            refine e_ifF (t := false) rfl rfl ?_
            refine e_exit ?_
            refine w_then rfl ?_
            refine w_then rfl ?_
            refine w_exit ?_
            refine r_way ?_
            repeat (refine r_seq ?_)
            refine r_code (by decide) ?_
            refine e_reg rfl ?_
            refine l_y (v := .pointer (some ⟨ba, 0, none⟩)) (y_move) ?_
            refine l_cr (e_call bd23 rfl (l := [.pointer (some ⟨ba, 0, none⟩)]) rfl) (c_Touched ba bw s1.ws s1.tc s1.la _ H1.ba') ?_
            refine l_y (v := .int .u64 s1.tc) (y_assign) ?_
            refine l_end ?_
            refine r_way ?_
            repeat (refine r_seq ?_)
            refine r_code (by decide) ?_
            refine e_reg rfl ?_
            refine l_y (v := .int .i64 0) (y_assign) ?_
            refine l_end ?_
            refine r_way ?_
            repeat (refine r_seq ?_)
            refine r_code (by decide) ?_
            refine e_block ?_
            refine e_loop (σ := B5) (live := fun s => [(7, .pointer (some ⟨ba, 0, none⟩)), (9, .slice p9 rs.length q9), (13, .bool true), (27, .int .u64 s1.tc), (28, .int .i64 ((s.k : Nat) : Int))]) (mem := fun s => ⟨s.M, (Well (PW W ba bw bl nw rs.length h3 hro3) Try.prog kd W.heap.size W (PostL W) s.tab)⟩) (I := fun s => s.k ≤ rs.length ∧ (∀ j r p, j < s.k → rs[j]? = some r → s.ps[j]? = some p → r.l.length ≤ p.1) ∧ Pl W ba bw bl nw rs.length h3 hro3 rs gs s.ps s1 s.tab s.M O1) (μ := fun s => rs.length - s.k) ⟨0, ps, tab1, M1⟩ ⟨Nat.zero_le _, fun j _ _ hj => absurd hj (Nat.not_lt_zero j), H1⟩ rfl (live_cons rfl (live_cons rfl (live_cons rfl (live_cons rfl (live_cons rfl live_nil))))) ?_
            rintro ⟨k6, ps6, tab6, M6⟩ base6 ⟨hk6, hz, H6⟩
            dsimp only at hk6 hz H6 ⊢
            refine e_seq ?_
            refine e_seq ?_
            refine e_reg rfl ?_
            refine l_y (v := .int .i64 ((k6 : Nat) : Int)) (y_move) ?_
            refine l_y (v := .slice p9 rs.length q9) (y_move) ?_
            refine l_y (v := .int .i64 ((rs.length : Nat) : Int)) (y_len (b := p9) (n := rs.length) (c := q9) rfl rfl el39) ?_
            refine l_y (v := .bool (decide (((k6 : Nat) : Int) < ((rs.length : Nat) : Int)))) (y_int (p := ((k6 : Nat) : Int)) (q := ((rs.length : Nat) : Int)) rfl rfl rfl) ?_
            refine l_end ?_
            refine e_then ?_
            refine e_if (t := decide (((k6 : Nat) : Int) < ((rs.length : Nat) : Int))) rfl (fun c8 => ?_) (fun c8 => ?_)
            · refine e_skip ?_
              refine e_then ?_
              refine e_seq ?_
              refine e_block ?_
              refine e_seq ?_
              have hlt : k6 < rs.length := by simp at c8; omega
              obtain ⟨a, ha⟩ : ∃ a, gs[k6]? = some a := ⟨_, List.getElem?_eq_getElem (by rw [hgl]; exact hlt)⟩
              obtain ⟨r, hr⟩ : ∃ r, rs[k6]? = some r := ⟨_, List.getElem?_eq_getElem hlt⟩
              obtain ⟨p, hp⟩ : ∃ p, ps6[k6]? = some p := ⟨_, List.getElem?_eq_getElem (by rw [H6.n2]; exact hlt)⟩
              obtain ⟨b9, cc9, rest9, hab, h9, hm9, hl9, hc9⟩ := SlB.at T1.sa (by omega)
              have hp9 := (Value.slice.inj h9).1
              refine e_reg rfl ?_
              refine l_y (v := .slice p9 rs.length q9) (y_move) ?_
              refine l_y (v := .int .i64 ((k6 : Nat) : Int)) (y_move) ?_
              refine l_y (v := .pointer (some ⟨b9, k6, none⟩)) (y_indexB (o := 0) (j := ((k6 : Nat) : Int)) (n := rs.length) (c := q9) (by rw [← hp9]; rfl) rfl el39 sz22 (Int.natCast_nonneg k6) (by omega) (by simp)) ?_
              refine l_y (v := .pointer (some ⟨a.a, 0, none⟩)) (y_loadB rfl ag22 (H6.hv.m hm9) (app_get (ptrs_get ha))) ?_
              refine l_c (e_call bd9 rfl (l := [.pointer (some ⟨a.a, 0, none⟩)]) rfl) (H6.stop (N := W.heap.size) (Post := PostL W) ha hr hp) ?_
              rintro e m' ⟨rfl, M7, tab7, n7, rfl, hn7, H7⟩
              have hps : (ps6.set k6 (n7, p.2))[k6]? = some (n7, p.2) := List.getElem?_set_self (by rw [H6.n2]; exact hlt)
              have hag : M7 a.a = some (agB a true) := (H7.agB' ha hr hps).trans (congrArg (fun z => some (agB a z)) (decide_eq_true hn7))
              refine l_end ?_
              refine e_then ?_
              refine e_reg rfl ?_
              refine l_y (v := .bool true) (y_move) ?_
              refine l_y (v := .bool true) (y_move) ?_
              refine g_y (v := .slice p9 rs.length q9) (b := true) rfl rfl rfl rfl (y_move) ?_
              refine g_y (v := .int .i64 ((k6 : Nat) : Int)) (b := true) rfl rfl rfl rfl (y_move) ?_
              refine g_y (v := .pointer (some ⟨b9, k6, none⟩)) (b := true) rfl rfl rfl rfl (y_indexB (o := 0) (j := ((k6 : Nat) : Int)) (n := rs.length) (c := q9) (by rw [← hp9]; rfl) rfl el39 sz22 (Int.natCast_nonneg k6) (by omega) (by simp)) ?_
              refine g_y (v := .pointer (some ⟨a.a, 0, none⟩)) (b := true) rfl rfl rfl rfl (y_loadB rfl ag22 (H7.hv.m hm9) (app_get (ptrs_get ha))) ?_
              refine g_cr (b := true) rfl rfl rfl rfl (e_call bd14 rfl (l := [.pointer (some ⟨a.a, 0, none⟩)]) rfl) (c_Done a.a 4 _ _ _ _ true _ hag) ?_
              refine l_y (v := .bool true) (y_pickT (t := true) rfl rfl rfl) ?_
              refine l_y (v := .bool true) (y_move) ?_
              refine g_y (v := .slice p9 rs.length q9) (b := true) rfl rfl rfl rfl (y_move) ?_
              refine g_y (v := .int .i64 ((k6 : Nat) : Int)) (b := true) rfl rfl rfl rfl (y_move) ?_
              refine g_y (v := .pointer (some ⟨b9, k6, none⟩)) (b := true) rfl rfl rfl rfl (y_indexB (o := 0) (j := ((k6 : Nat) : Int)) (n := rs.length) (c := q9) (by rw [← hp9]; rfl) rfl el39 sz22 (Int.natCast_nonneg k6) (by omega) (by simp)) ?_
              refine g_y (v := .pointer (some ⟨a.a, 0, none⟩)) (b := true) rfl rfl rfl rfl (y_loadB rfl ag22 (H7.hv.m hm9) (app_get (ptrs_get ha))) ?_
              refine g_cr (b := true) rfl rfl rfl rfl (e_call bd13 rfl (l := [.pointer (some ⟨a.a, 0, none⟩)]) rfl) (c_Step_done a.a 4 _ _ _ _ _ hag) ?_
              refine g_y (v := .bool true) (b := true) rfl rfl rfl rfl (y_int (p := 6) (q := 0) rfl rfl rfl) ?_
              refine l_y (v := .bool true) (y_pickT (t := true) rfl rfl rfl) ?_
              refine l_y (v := .bool true) (y_assign) ?_
              refine l_end ?_
              refine w_block rfl ?_
              refine e_then ?_
              have hwrap : IntKind.i64.wrap (((k6 : Nat) : Int) + 1) = ((k6 + 1 : Nat) : Int) := wrap8 rfl (x := k6 + 1) (by omega)
              refine e_reg rfl ?_
              refine l_y (v := .int .i64 ((k6 : Nat) : Int)) (y_move) ?_
              refine l_y (v := .int .i64 ((k6 + 1 : Nat) : Int)) (y_int (p := ((k6 : Nat) : Int)) (q := 1) rfl rfl (by rw [← hwrap]; rfl)) ?_
              refine l_y (v := .int .i64 ((k6 + 1 : Nat) : Int)) (y_assign) ?_
              refine l_end ?_
              refine Sp.w_round (σ := B5) (s := ⟨k6, ps6, tab6, M6⟩) (s' := ⟨k6 + 1, ps6.set k6 (n7, p.2), tab7, M7⟩) ?_ ?_ ?_ ?_
              · refine ⟨hlt, fun j r' p' hj h1 h2 => ?_, H7⟩
                by_cases e : k6 = j
                · subst e; rw [hps] at h2; cases h2; rw [hr] at h1; cases h1; exact hn7
                · dsimp only at hj h2; rw [List.getElem?_set_ne e] at h2; exact hz j r' p' (by omega) h1 h2
              · dsimp only; omega
              · rfl
              · exact fun _ => (live_cons rfl (live_cons rfl (live_cons rfl (live_cons rfl (live_cons rfl live_nil)))))
            · refine e_exit ?_
              refine w_then rfl ?_
              refine w_then rfl ?_
              refine w_exit ?_
              refine r_way ?_
              repeat (refine r_seq ?_)
              refine r_code (by decide) ?_
              have hke : k6 = rs.length := by simp at c8; omega
              subst hke
              have hfin : tab6 = fun _ => none := H6.fin fun j r p h1 h2 => hz j r p (List.getElem?_eq_some_iff.1 h1).1 h1 h2
              subst hfin
              refine e_reg rfl ?_
              refine l_y (v := .bool true) (y_move) ?_
              refine l_y (v := .bool true) (y_move) ?_
              refine g_y (v := .pointer (some ⟨ba, 0, none⟩)) (b := true) rfl rfl rfl rfl (y_move) ?_
              refine g_cr (b := true) rfl rfl rfl rfl (e_call bd23 rfl (l := [.pointer (some ⟨ba, 0, none⟩)]) rfl) (c_Touched ba bw s1.ws s1.tc s1.la _ H6.ba') ?_
              refine g_y (v := .int .u64 s1.tc) (b := true) rfl rfl rfl rfl (y_move) ?_
              refine g_y (v := .bool true) (b := true) rfl rfl rfl rfl (y_int (p := s1.tc) (q := s1.tc) rfl rfl (int_eq_self _)) ?_
              refine l_y (v := .bool true) (y_pickT (t := true) rfl rfl rfl) ?_
              refine l_y (v := .bool true) (y_move) ?_
              refine g_c (b := true) rfl rfl rfl rfl (e_call bd15 rfl (l := []) rfl) (c_wakes (L := (PW W ba bw bl nw rs.length h3 hro3)) (N := W.heap.size) (W := W) (Post := PostL W) (M := M6) H6.hv.mn.ro) ?_
              rintro e m' ⟨hst, rfl⟩
              refine l_y (v := .bool true) (y_pickT (t := true) rfl rfl rfl) ?_
              refine l_y (v := .bool true) (y_assign) ?_
              refine l_end ?_
              refine r_way ?_
              repeat (refine r_seq ?_)
              refine r_code (by decide) ?_
              refine e_ret ?_
              exact law_way Try.func5 rfl (by kernel_rfl) (fun w hw => ⟨rfl, hw⟩) rfl hst
end Go.Proofs.Ytpgooljdodijlaa
