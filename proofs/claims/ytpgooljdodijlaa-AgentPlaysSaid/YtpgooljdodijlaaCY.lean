/-
  What is proved: the contracts of an agent's own memory, and of an agent's run. Conditions: those that each theorem names.
-/
import Derived.Test.YtpgooljdodijlaaCX
import Derived.Test.YtpgooljdodijlaaArena
namespace Go.Proofs.Ytpgooljdodijlaa
open Go Go.Sp Go.Conc Go.RowKit
attribute [local irreducible] Code.wps OpsS OpsL Oper.wps Sem.wpm CallM RunM
set_option linter.unusedSimpArgs false
set_option linter.unusedVariables false
theorem ag133 : aggOf Try.prog 133 = some true := by kernel_rfl
theorem sz133 : szOf Try.prog 133 = some 1 := by kernel_rfl
theorem ag30 : aggOf Try.prog 30 = some false := by kernel_rfl
theorem sz30 : szOf Try.prog 30 = some 1 := by kernel_rfl
theorem bd110 : bodied Try.prog 110 = true := by kernel_rfl
theorem bd111 : bodied Try.prog 111 = true := by kernel_rfl
theorem bd107 : bodied Try.prog 107 = true := by kernel_rfl
theorem bd108 : bodied Try.prog 108 = true := by kernel_rfl
theorem bd109 : bodied Try.prog 109 = true := by kernel_rfl
theorem bd19 : bodied Try.prog 19 = true := by kernel_rfl
theorem bd35 : bodied Try.prog 35 = true := by kernel_rfl
theorem mt23R : methOf Try.prog 23 "Read" = some 19 := by kernel_rfl
theorem mt23U : methOf Try.prog 23 "Update" = some 50 := by kernel_rfl
theorem mt23W : methOf Try.prog 23 "Write" = some 35 := by kernel_rfl
theorem mt133R : methOf Try.prog 133 "Read" = some 107 := by kernel_rfl
theorem mt133U : methOf Try.prog 133 "Update" = some 108 := by kernel_rfl
theorem mt133W : methOf Try.prog 133 "Write" = some 109 := by kernel_rfl
/-- An arena's block. -/
def arB (bw : Nat) (ws : List Int) (tc la : Int) : Obj := .cells #[.slice (some ⟨bw, 0, none⟩) ws.length ws.length, .int .u64 tc, .int .i64 la] 106
/-- The arena is among what is shared. -/
def HasAr (ba bw : Nat) (S : Part) (ws : List Int) (tc la : Int) : Prop := ba ≠ bw ∧ S ba = some (arB bw ws tc la) ∧ S bw = some (.cells (wordsV ws) 31)
/-- Where an agent may touch. -/
structure Ready (L : Lw) (ag : Ag) (ba bw : Nat) (Ob : Bool → L.St → Part → Prop) (st : L.St) (M S : Part) : Prop where
  ob : Ob false st S
  inv : L.inv S
  sh : ∀ b o, S b = some o → M b = some o
  a : M ag.a = some (ag.ro kd)
  sa : S ag.a = none
  ro : ∀ b o, L.ro b = some o → M b = some o
  mi : ag.mi = .iface 23 (.pointer (some ⟨ba, 0, none⟩))
  ar : ∀ S, L.inv S → ∃ ws tc la, HasAr ba bw S ws tc la
/-- How a touch ends: it was done, or the agent is stopped. -/
def Touched (L : Lw) (ag : Ag) (ba bw : Nat) (st : L.St) (M S : Part) (v : List Int → Value) (f : Mem → List Int → Int → Int → Mem) : Ending → Mem → Prop := fun e m' =>
  ∃ S₁ M₁, L.inv S₁ ∧ Carry L ag M S S₁ M₁ ∧
    ((∃ ws tc la, HasAr ba bw S₁ ws tc la ∧ e = .returned (v ws) ∧ m' = f ⟨M₁, Zl L Try.prog kd ag (L.tr st S₁)⟩ ws tc la) ∨
     (e = .panicked [{ v := .iface 130 (.agg #[]), recovered := false }] ∧ m' = ⟨M₁, Zl L Try.prog kd ag (fun flag _ S' => flag = true ∧ L.dd st S₁ S')⟩))
theorem Carry.new {L : Lw} {ag : Ag} {M S S₁ M₁ : Part} {st : Stp} {b : Nat} {x : Obj} (hb : (Mem.mk M st) b = none) (h : Carry L ag ((Mem.mk M st).set b x).at_ S S₁ M₁) : Carry L ag M S S₁ M₁ :=
  ⟨fun c o h1 => h.keep c o (Mem.miss (Mem.ne_none (m := ⟨M, st⟩) h1 hb) h1), h.shared, h.ro, h.a⟩
section
variable {L : Lw} {ag : Ag} {ba bw : Nat} {Ob : Bool → L.St → Part → Prop} {st : L.St} {M S : Part}
theorem Ready.up {M₁ : Part} (h : Ready L ag ba bw Ob st M S) (hc : Carry L ag M S S M₁) : Ready L ag ba bw Ob st M₁ S :=
  ⟨h.ob, h.inv, hc.shared, hc.a.1, hc.a.2, hc.ro, h.mi, h.ar⟩
theorem Ready.new {st' : Stp} {b : Nat} {x : Obj} (h : Ready L ag ba bw Ob st M S) (hb : (Mem.mk M st') b = none) : Ready L ag ba bw Ob st ((Mem.mk M st').set b x).at_ S :=
  ⟨h.ob, h.inv, fun c o h1 => Mem.miss (Mem.ne_none (m := ⟨M, st'⟩) (h.sh c o h1) hb) (h.sh c o h1), Mem.miss (Mem.ne_none (m := ⟨M, st'⟩) h.a hb) h.a, h.sa, fun c o h1 => Mem.miss (Mem.ne_none (m := ⟨M, st'⟩) (h.ro c o h1) hb) (h.ro c o h1), h.mi, h.ar⟩
theorem Ready.alive (h : Ready L ag ba bw Ob st M S) : CallM Try.prog 110 #[.agg #[.pointer (some ⟨ag.a, 0, none⟩)]] ⟨M, Zl L Try.prog kd ag Ob⟩ (fun e m' => ∃ M₁, Carry L ag M S S M₁ ∧ e = .returned (.tuple #[]) ∧ m' = ⟨M₁, Zl L Try.prog kd ag Ob⟩) :=
  c_alive h.ob h.inv h.sh h.a h.sa h.ro
theorem Ready.wait (h : Ready L ag ba bw Ob st M S) : CallM Try.prog 111 #[.agg #[.pointer (some ⟨ag.a, 0, none⟩)]] ⟨M, Zl L Try.prog kd ag Ob⟩ (fun e m' => ∃ S₁ M₁, L.inv S₁ ∧ Carry L ag M S S₁ M₁ ∧
      ((e = .returned (.tuple #[]) ∧ m' = ⟨M₁, Zl L Try.prog kd ag (L.tr st S₁)⟩) ∨
       (e = .panicked [{ v := .iface 130 (.agg #[]), recovered := false }] ∧ m' = ⟨M₁, Zl L Try.prog kd ag (fun flag _ S' => flag = true ∧ L.dd st S₁ S')⟩))) :=
  c_wait' h.ob h.inv h.sh h.a h.sa h.ro

set_option maxRecDepth 20000 in
theorem c_oRead (at_ : Int) (h : Ready L ag ba bw Ob st M S) : CallM Try.prog 107 #[.agg #[.pointer (some ⟨ag.a, 0, none⟩)], .int .i64 at_] ⟨M, Zl L Try.prog kd ag Ob⟩ (Touched L ag ba bw st M S (fun ws => .int .u64 (rdW ws at_)) (fun m ws tc la => m.set ba (arB bw ws (tcW ws at_ tc) (laW ws at_ la)))) := by
  refine callM_body (args := [.agg #[.pointer (some ⟨ag.a, 0, none⟩)], .int .i64 at_]) Try.func107 rfl rfl rfl ?_
  repeat (refine e_seq ?_)
  refine e_reg rfl ?_
  refine l_n (n_box (v := .agg #[.pointer (some ⟨ag.a, 0, none⟩)]) rfl) fun b hb => ?_
  refine l_y (v := .int .u64 0) y_assign ?_
  refine l_end ?_
  refine e_then ?_
  have h_b := Mem.hit ⟨M, Zl L Try.prog kd ag Ob⟩ b (.cells #[.pointer (some ⟨ag.a, 0, none⟩)] 133)
  have h1 := h.new (x := .cells #[.pointer (some ⟨ag.a, 0, none⟩)] 133) hb
  have hbS : S b = none := by cases hs : S b with | none => rfl | some o => exact absurd (h.sh b o hs) (by intro z; rw [show M b = none from hb] at z; cases z)
  have hne : ag.a ≠ b := Mem.ne_none (m := ⟨M, Zl L Try.prog kd ag Ob⟩) h.a hb
  repeat (refine e_seq ?_)
  refine e_reg rfl ?_
  refine l_y (v := .agg #[.pointer (some ⟨ag.a, 0, none⟩)]) (y_loadNB rfl ag133 sz133 h_b rfl (Nat.le_refl 1)) ?_
  refine l_c (e_call bd110 rfl (l := [.agg #[.pointer (some ⟨ag.a, 0, none⟩)]]) rfl) h1.alive ?_
  rintro e m' ⟨M₂, hc2, rfl, rfl⟩
  have h2 := h1.up hc2
  have h_b2 := hc2.keep b _ h_b hbS rfl rfl (ro_open _ _)
  refine l_end ?_
  refine e_then ?_
  repeat (refine e_seq ?_)
  refine e_reg rfl ?_
  refine l_y (v := .agg #[.pointer (some ⟨ag.a, 0, none⟩)]) (y_loadNB rfl ag133 sz133 h_b2.1 rfl (Nat.le_refl 1)) ?_
  refine l_c (e_call bd111 rfl (l := [.agg #[.pointer (some ⟨ag.a, 0, none⟩)]]) rfl) h2.wait ?_
  rintro e m' ⟨S₁, M₁, hi, hc, (⟨rfl, rfl⟩ | ⟨rfl, rfl⟩)⟩
  case inr =>
    repeat (refine w_then rfl ?_)
    exact body_panic (Mem.le_refl _) ⟨S₁, M₁, hi, (hc2.trans hc).new hb, .inr ⟨rfl, rfl⟩⟩
  have h_b1 := hc.keep b _ h_b2.1 h_b2.2 rfl rfl (ro_open _ _)
  obtain ⟨ws, tc, la, hne2, hba, hbw⟩ := h.ar S₁ hi
  have h_a : M₁ ag.a = some (.cells #[.iface 23 (.pointer (some ⟨ba, 0, none⟩)), .chan (some ag.ct), .chan (some ag.cr), .chan (some ag.cd)] 104 (0, 4)) := by have := hc.a.1; unfold Ag.ro at this; rw [h.mi] at this; exact this
  refine l_end ?_
  refine e_then ?_
  repeat (refine e_seq ?_)
  refine e_reg rfl ?_
  refine l_y (v := .pointer (some ⟨b, 0, none⟩)) (y_fieldB rfl Try.underlying133 rfl sz22 rfl) ?_
  refine l_y (v := .pointer (some ⟨ag.a, 0, none⟩)) (y_loadB rfl ag22 h_b1.1 rfl) ?_
  refine l_y (v := .pointer (some ⟨ag.a, 0, none⟩)) (y_nilCheck rfl) ?_
  refine l_y (v := .pointer (some ⟨ag.a, 0, none⟩)) (y_fieldB rfl Try.underlying104 rfl sz30 rfl) ?_
  refine l_y (v := .iface 23 (.pointer (some ⟨ba, 0, none⟩))) (y_loadB rfl ag30 h_a rfl) ?_
  refine l_y (v := .int .i64 at_) y_move ?_
  refine l_cr (e_invoke (l := [.int .i64 at_]) rfl mt23R bd19 rfl) (c_Read ba bw ws tc la at_ ⟨M₁, Zl L Try.prog kd ag (L.tr st S₁)⟩ (hc.shared _ _ hba) (hc.shared _ _ hbw) hne2) ?_
  refine l_y (v := .int .u64 (rdW ws at_)) y_assign ?_
  refine l_end ?_
  refine e_then ?_
  refine e_ret ?_
  exact body_ret (l := [.int .u64 (rdW ws at_)]) (resVals_cons (resVal_tmp rfl) resVals_nil) (Mem.le_refl _) ⟨S₁, M₁, hi, (hc2.trans hc).new hb, .inl ⟨ws, tc, la, ⟨hne2, hba, hbw⟩, rfl, rfl⟩⟩
set_option maxRecDepth 20000 in
theorem c_oWrite (at_ v : Int) (h : Ready L ag ba bw Ob st M S) : CallM Try.prog 109 #[.agg #[.pointer (some ⟨ag.a, 0, none⟩)], .int .i64 at_, .int .u64 v] ⟨M, Zl L Try.prog kd ag Ob⟩ (Touched L ag ba bw st M S (fun ws => .tuple #[]) (fun m ws tc la => (m.set ba (arB bw ws (tcW ws at_ tc) (laW ws at_ la))).set bw (.cells (wordsV (upW ws at_ (fun _ => v))) 31))) := by
  refine callM_body (args := [.agg #[.pointer (some ⟨ag.a, 0, none⟩)], .int .i64 at_, .int .u64 v]) Try.func109 rfl rfl rfl ?_
  repeat (refine e_seq ?_)
  refine e_reg rfl ?_
  refine l_n (n_box (v := .agg #[.pointer (some ⟨ag.a, 0, none⟩)]) rfl) fun b hb => ?_
  refine l_end ?_
  refine e_then ?_
  have h_b := Mem.hit ⟨M, Zl L Try.prog kd ag Ob⟩ b (.cells #[.pointer (some ⟨ag.a, 0, none⟩)] 133)
  have h1 := h.new (x := .cells #[.pointer (some ⟨ag.a, 0, none⟩)] 133) hb
  have hbS : S b = none := by cases hs : S b with | none => rfl | some o => exact absurd (h.sh b o hs) (by intro z; rw [show M b = none from hb] at z; cases z)
  have hne : ag.a ≠ b := Mem.ne_none (m := ⟨M, Zl L Try.prog kd ag Ob⟩) h.a hb
  repeat (refine e_seq ?_)
  refine e_reg rfl ?_
  refine l_y (v := .agg #[.pointer (some ⟨ag.a, 0, none⟩)]) (y_loadNB rfl ag133 sz133 h_b rfl (Nat.le_refl 1)) ?_
  refine l_c (e_call bd110 rfl (l := [.agg #[.pointer (some ⟨ag.a, 0, none⟩)]]) rfl) h1.alive ?_
  rintro e m' ⟨M₂, hc2, rfl, rfl⟩
  have h2 := h1.up hc2
  have h_b2 := hc2.keep b _ h_b hbS rfl rfl (ro_open _ _)
  refine l_end ?_
  refine e_then ?_
  repeat (refine e_seq ?_)
  refine e_reg rfl ?_
  refine l_y (v := .agg #[.pointer (some ⟨ag.a, 0, none⟩)]) (y_loadNB rfl ag133 sz133 h_b2.1 rfl (Nat.le_refl 1)) ?_
  refine l_c (e_call bd111 rfl (l := [.agg #[.pointer (some ⟨ag.a, 0, none⟩)]]) rfl) h2.wait ?_
  rintro e m' ⟨S₁, M₁, hi, hc, (⟨rfl, rfl⟩ | ⟨rfl, rfl⟩)⟩
  case inr =>
    repeat (refine w_then rfl ?_)
    exact body_panic (Mem.le_refl _) ⟨S₁, M₁, hi, (hc2.trans hc).new hb, .inr ⟨rfl, rfl⟩⟩
  have h_b1 := hc.keep b _ h_b2.1 h_b2.2 rfl rfl (ro_open _ _)
  obtain ⟨ws, tc, la, hne2, hba, hbw⟩ := h.ar S₁ hi
  have h_a : M₁ ag.a = some (.cells #[.iface 23 (.pointer (some ⟨ba, 0, none⟩)), .chan (some ag.ct), .chan (some ag.cr), .chan (some ag.cd)] 104 (0, 4)) := by have := hc.a.1; unfold Ag.ro at this; rw [h.mi] at this; exact this
  refine l_end ?_
  refine e_then ?_
  repeat (refine e_seq ?_)
  refine e_reg rfl ?_
  refine l_y (v := .pointer (some ⟨b, 0, none⟩)) (y_fieldB rfl Try.underlying133 rfl sz22 rfl) ?_
  refine l_y (v := .pointer (some ⟨ag.a, 0, none⟩)) (y_loadB rfl ag22 h_b1.1 rfl) ?_
  refine l_y (v := .pointer (some ⟨ag.a, 0, none⟩)) (y_nilCheck rfl) ?_
  refine l_y (v := .pointer (some ⟨ag.a, 0, none⟩)) (y_fieldB rfl Try.underlying104 rfl sz30 rfl) ?_
  refine l_y (v := .iface 23 (.pointer (some ⟨ba, 0, none⟩))) (y_loadB rfl ag30 h_a rfl) ?_
  refine l_y (v := .int .i64 at_) y_move ?_
  refine l_y (v := .int .u64 v) y_move ?_
  refine l_cr (e_invoke (l := [.int .i64 at_, .int .u64 v]) rfl mt23W bd35 rfl) (c_Write ba bw ws tc la at_ v ⟨M₁, Zl L Try.prog kd ag (L.tr st S₁)⟩ (hc.shared _ _ hba) (hc.shared _ _ hbw) hne2) ?_
  refine l_end ?_
  exact body_end (l := []) resVals_nil (Mem.le_refl _) ⟨S₁, M₁, hi, (hc2.trans hc).new hb, .inl ⟨ws, tc, la, ⟨hne2, hba, hbw⟩, rfl, rfl⟩⟩
set_option maxRecDepth 20000 in
theorem c_oUpdate (at_ : Int) (fid : FuncId) (fs cs : List Value) (f : List Int → Int → Int) (hbd : bodied Try.prog fid = true) (h : Ready L ag ba bw Ob st M S) (hf : ∀ S₁ M₁ ws tc la, L.inv S₁ → Carry L ag M S S₁ M₁ → HasAr ba bw S₁ ws tc la → ∀ m1, Keep [ba] ⟨M₁, Zl L Try.prog kd ag (L.tr st S₁)⟩ m1 → CallM Try.prog fid (fs ++ [(.int .u64 (rdW ws at_) : Value)] ++ cs).toArray m1 (Ret (.int .u64 (f ws (rdW ws at_))) m1)) : CallM Try.prog 108 #[.agg #[.pointer (some ⟨ag.a, 0, none⟩)], .int .i64 at_, .func (.func fid) fs.toArray cs.toArray] ⟨M, Zl L Try.prog kd ag Ob⟩ (Touched L ag ba bw st M S (fun ws => .int .u64 (rdW ws at_)) (fun m ws tc la => (m.set ba (arB bw ws (tcW ws at_ tc) (laW ws at_ la))).set bw (.cells (wordsV (upW ws at_ (f ws))) 31))) := by
  refine callM_body (args := [.agg #[.pointer (some ⟨ag.a, 0, none⟩)], .int .i64 at_, .func (.func fid) fs.toArray cs.toArray]) Try.func108 rfl rfl rfl ?_
  repeat (refine e_seq ?_)
  refine e_reg rfl ?_
  refine l_n (n_box (v := .agg #[.pointer (some ⟨ag.a, 0, none⟩)]) rfl) fun b hb => ?_
  refine l_y (v := .int .u64 0) y_assign ?_
  refine l_end ?_
  refine e_then ?_
  have h_b := Mem.hit ⟨M, Zl L Try.prog kd ag Ob⟩ b (.cells #[.pointer (some ⟨ag.a, 0, none⟩)] 133)
  have h1 := h.new (x := .cells #[.pointer (some ⟨ag.a, 0, none⟩)] 133) hb
  have hbS : S b = none := by cases hs : S b with | none => rfl | some o => exact absurd (h.sh b o hs) (by intro z; rw [show M b = none from hb] at z; cases z)
  have hne : ag.a ≠ b := Mem.ne_none (m := ⟨M, Zl L Try.prog kd ag Ob⟩) h.a hb
  repeat (refine e_seq ?_)
  refine e_reg rfl ?_
  refine l_y (v := .agg #[.pointer (some ⟨ag.a, 0, none⟩)]) (y_loadNB rfl ag133 sz133 h_b rfl (Nat.le_refl 1)) ?_
  refine l_c (e_call bd110 rfl (l := [.agg #[.pointer (some ⟨ag.a, 0, none⟩)]]) rfl) h1.alive ?_
  rintro e m' ⟨M₂, hc2, rfl, rfl⟩
  have h2 := h1.up hc2
  have h_b2 := hc2.keep b _ h_b hbS rfl rfl (ro_open _ _)
  refine l_end ?_
  refine e_then ?_
  repeat (refine e_seq ?_)
  refine e_reg rfl ?_
  refine l_y (v := .agg #[.pointer (some ⟨ag.a, 0, none⟩)]) (y_loadNB rfl ag133 sz133 h_b2.1 rfl (Nat.le_refl 1)) ?_
  refine l_c (e_call bd111 rfl (l := [.agg #[.pointer (some ⟨ag.a, 0, none⟩)]]) rfl) h2.wait ?_
  rintro e m' ⟨S₁, M₁, hi, hc, (⟨rfl, rfl⟩ | ⟨rfl, rfl⟩)⟩
  case inr =>
    repeat (refine w_then rfl ?_)
    exact body_panic (Mem.le_refl _) ⟨S₁, M₁, hi, (hc2.trans hc).new hb, .inr ⟨rfl, rfl⟩⟩
  have h_b1 := hc.keep b _ h_b2.1 h_b2.2 rfl rfl (ro_open _ _)
  obtain ⟨ws, tc, la, hne2, hba, hbw⟩ := h.ar S₁ hi
  have h_a : M₁ ag.a = some (.cells #[.iface 23 (.pointer (some ⟨ba, 0, none⟩)), .chan (some ag.ct), .chan (some ag.cr), .chan (some ag.cd)] 104 (0, 4)) := by have := hc.a.1; unfold Ag.ro at this; rw [h.mi] at this; exact this
  refine l_end ?_
  refine e_then ?_
  repeat (refine e_seq ?_)
  refine e_reg rfl ?_
  refine l_y (v := .pointer (some ⟨b, 0, none⟩)) (y_fieldB rfl Try.underlying133 rfl sz22 rfl) ?_
  refine l_y (v := .pointer (some ⟨ag.a, 0, none⟩)) (y_loadB rfl ag22 h_b1.1 rfl) ?_
  refine l_y (v := .pointer (some ⟨ag.a, 0, none⟩)) (y_nilCheck rfl) ?_
  refine l_y (v := .pointer (some ⟨ag.a, 0, none⟩)) (y_fieldB rfl Try.underlying104 rfl sz30 rfl) ?_
  refine l_y (v := .iface 23 (.pointer (some ⟨ba, 0, none⟩))) (y_loadB rfl ag30 h_a rfl) ?_
  refine l_y (v := .int .i64 at_) y_move ?_
  refine l_y (v := .func (.func fid) fs.toArray cs.toArray) y_move ?_
  refine l_cr (e_invoke (l := [.int .i64 at_, .func (.func fid) fs.toArray cs.toArray]) rfl mt23U bd50 rfl) (c_UpdateW ba bw ws tc la at_ fid fs cs ⟨M₁, Zl L Try.prog kd ag (L.tr st S₁)⟩ (hc.shared _ _ hba) (hc.shared _ _ hbw) hne2 hbd (f ws) (hf S₁ M₁ ws tc la hi ((hc2.trans hc).new hb) ⟨hne2, hba, hbw⟩)) ?_
  refine l_y (v := .int .u64 (rdW ws at_)) y_assign ?_
  refine l_end ?_
  refine e_then ?_
  refine e_ret ?_
  exact body_ret (l := [.int .u64 (rdW ws at_)]) (resVals_cons (resVal_tmp rfl) resVals_nil) (Mem.le_refl _) ⟨S₁, M₁, hi, (hc2.trans hc).new hb, .inl ⟨ws, tc, la, ⟨hne2, hba, hbw⟩, rfl, rfl⟩⟩
end
end Go.Proofs.Ytpgooljdodijlaa
