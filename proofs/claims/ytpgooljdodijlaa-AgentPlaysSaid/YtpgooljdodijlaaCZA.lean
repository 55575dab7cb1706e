/-
  What is proved: the contract of agent.New for the one who steps agents. Conditions: those that the theorem names.
-/
import Derived.Test.YtpgooljdodijlaaCZ
namespace Go.Proofs.Ytpgooljdodijlaa
open Go Go.Sp Go.Conc Go.RowKit
attribute [local irreducible] Code.wps OpsS OpsL Oper.wps Sem.wpm CallM RunM
set_option linter.unusedSimpArgs false
set_option linter.unusedVariables false
theorem zr104 : zeroOf Try.prog 104 = some (.agg #[.nilIface, .chan none, .chan none, .chan none, .bool false]) := by kernel_rfl
theorem pl104 : plOf Try.prog 104 = some [(0, 1), (1, 1), (2, 1), (3, 1), (4, 1)] := by kernel_rfl
theorem by108 : byOfS Try.prog 108 = some 0 := by kernel_rfl
theorem by4 : byOfS Try.prog 4 = some 1 := by kernel_rfl
theorem mixed : Try.prog.follows .mixedOrders = true := by kernel_rfl
abbrev chO : Obj := .chan 0 #[] false 0 0 false
theorem three {m : Mem} {b1 b2 b3 : Nat} (h1 : m b1 = none) (h2 : (m.set b1 chO) b2 = none) (h3 : ((m.set b1 chO).set b2 chO) b3 = none) :
    let f := ((m.set b1 chO).set b2 chO).set b3 chO
    m.le f ∧ f b1 = some chO ∧ f b2 = some chO ∧ f b3 = some chO ∧ b1 ≠ b2 ∧ b1 ≠ b3 ∧ b2 ≠ b3 := by
  obtain ⟨n2, _⟩ := Mem.none_set h2
  obtain ⟨n3, h3'⟩ := Mem.none_set h3
  obtain ⟨n3', _⟩ := Mem.none_set h3'
  refine ⟨Mem.le_new (Mem.le_new (Mem.le_new (Mem.le_refl m) h1) (Mem.none_set h2).2) (Mem.none_set h3').2, ?_, ?_, ?_, n2.symm, n3'.symm, n3.symm⟩
  · rw [Mem.set_ne _ _ n3'.symm, Mem.set_ne _ _ n2.symm]; exact Mem.set_same _ _ _
  · rw [Mem.set_ne _ _ n3.symm]; exact Mem.set_same _ _ _
  · exact Mem.set_same _ _ _
section
variable {L : Lw} {N : Nat} {W : World} {Post : Value → World → Prop} {tab : Nat → Option (Ag × L.St)}
/-- Goroutine 0 makes an agent's block. -/
theorem r_mkA {bf : Frame} {k : List Item} {cs : List Frame} {ops : Array Oper} {i : Nat} {rest : List Nat} {n : Nat} {base : Nat → Value} {rs : List (Nat × Value)} {ds : List Deferred} {dst : Option Tmp} {ty : TypeId} {pos : String} {after : Array Edge} {x : Operand} {M : Part} {mi v1 v2 v3 : Value}
    (ho : ops[i]? = some ⟨dst, .box 104 x, ty, pos, after, none⟩) (hk : bf.kind ≠ .early) (hd : dstOk n ⟨dst, .box 104 x, ty, pos, after, none⟩ = true) (hx : ev base rs x = .agg #[mi, v1, v2, v3, .bool false])
    (h : ∀ z, M z = none → AtF Try.prog true bf (.inRegion ops rest :: k) cs n base (outE dst (.pointer (some ⟨z, 0, none⟩)) rs) ds ⟨M.put z (.cells #[mi, v1, v2, v3, .bool false] 104 (0, 4)), WellN L Try.prog kd N W Post tab z (.cells #[mi, v1, v2, v3] 104 (0, 4))⟩) :
    AtF Try.prog true bf (.inRegion ops (i :: rest) :: k) cs n base rs ds ⟨M, Well L Try.prog kd N W Post tab⟩ := fun a ha =>
  run_box (c := #[mi, v1, v2, v3, .bool false]) (c4 := #[mi, v1, v2, v3]) (e := 104) (k := 4) (nf := fun z => bf.at (a.put dst (.pointer (some ⟨z, 0, none⟩))) (.inRegion ops rest :: k)) (by decide) (Nat.le_refl 4) (fun i v hv => by
    rcases i with _ | _ | _ | _ | i <;> simp at hv ⊢ <;> exact hv) (fun w => box_at ho hk ha hx w) fun z hz => h z hz _ (ha.put hd _)
/-- Goroutine 0 starts an agent. -/
theorem r_go {bf : Frame} {k : List Item} {cs : List Frame} {ops : Array Oper} {i : Nat} {rest : List Nat} {n : Nat} {base : Nat → Value} {rs : List (Nat × Value)} {ds : List Deferred} {ty : TypeId} {pos : String} {after : Array Edge} {c : Call} {d : Deferred} {f : Fn} {cap : Array Value}
    (ag : Nat → Ag) (hag : ∀ j, (ag j).j = j ∧ (ag j).a = (ag 0).a ∧ (ag j).ct = (ag 0).ct ∧ (ag j).cr = (ag 0).cr ∧ (ag j).cd = (ag 0).cd ∧ (ag j).mi = (ag 0).mi) {M M0 S pc : Part} {hM : Goroutine → Prop} {Ob : Bool → L.St → Part → Prop}
    (ho : ops[i]? = some ⟨none, .go c, ty, pos, after, none⟩) (hk : bf.kind ≠ .early) (hr : resolve (ev base rs) c ty = pure d) (ht : d.target = .fn f cap)
    (htab : tab (ag 0).a = none) (hS : L.inv S) (hct : (ag 0).ct ≠ (ag 0).cd ∧ (ag 0).cr ≠ (ag 0).ct ∧ (ag 0).cr ≠ (ag 0).cd)
    (hM1 : ∀ b o, (M0.join (pc.join S)) b = some o → M b = some o) (hMc : ∀ c, c = (ag 0).ct ∨ c = (ag 0).cr ∨ c = (ag 0).cd → M c = some (.chan 0 #[] false 0 0 false))
    (hd1 : ∀ b o, M0 b = some o → pc b = none ∧ S b = none ∧ o.isChan = false ∧ ¬ RO o) (hd2 : ∀ b o, pc b = some o → S b = none ∧ b ≠ (ag 0).a ∧ floor o = 0 ∧ o.isChan = false ∧ ¬ RO o) (hSa : S (ag 0).a = none)
    (hchild : ∀ j, RunM Try.prog false (born Try.prog d) ⟨((pc.put (ag 0).a ((ag 0).ro kd)).join S).join L.ro, Zl L Try.prog kd (ag j) Ob⟩)
    (hq : AtQ Try.prog true (fun x => if x = (ag 0).a then some ((ag 0).ro kd) else none) (seatM (ag 0) hM) bf (.inRegion ops rest :: k) cs n base rs ds)
    (hhome : ∀ j g₂, hM g₂ → ∀ flag st' S', Ob flag st' S' → L.inv S' → (∀ b o, M0 b = some o → S' b = none) → RunM Try.prog true (Go.Conc.served g₂ (.bool flag)) ⟨(M0.join S').join L.ro, Well L Try.prog kd N W Post (fun a => if a = (ag 0).a then (if flag = true then none else some (ag j, st')) else tab a)⟩) :
    AtF Try.prog true bf (.inRegion ops (i :: rest) :: k) cs n base rs ds ⟨M, WellN L Try.prog kd N W Post tab (ag 0).a ((ag 0).ro kd)⟩ := fun a ha =>
  run_go hag htab hS hct hM1 hMc hd1 hd2 hSa rfl (fun w => go_at ho hk ha hr ht w) (hq _ (ha.put (dst := none) rfl undef)) hchild hhome
/-- Where goroutine 0 comes back from a birth. -/
def BornTo (L : Lw) (N : Nat) (W : World) (Post : Value → World → Prop) (tab : Nat → Option (Ag × L.St)) (mi : Value) (M M0 : Part) (Ob : Bool → L.St → Part → Prop) : Ending → Mem → Prop := fun e m' =>
  ∃ ag flag st' S', ag.mi = mi ∧ M ag.a = none ∧ Ob flag st' S' ∧ L.inv S' ∧ (∀ b o, (M0.put ag.a (agB ag false)) b = some o → S' b = none) ∧ e = .returned (.tuple #[.pointer (some ⟨ag.a, 0, none⟩), .int .i64 0]) ∧
    m' = (Mem.mk (((M0.put ag.a (agB ag false)).join S').join L.ro) (Well L Try.prog kd N W Post (fun a => if a = ag.a then (if flag = true then none else some (ag, st')) else tab a))).set ag.a (agB ag flag)
set_option maxRecDepth 20000 in
theorem c_New {mt : TypeId} {mv : Value} {fid : FuncId} {fs cs' : List Value} {M M0 S pc : Part} {Ob : Bool → L.St → Part → Prop} (hbd : bodied Try.prog fid = true) (hS : L.inv S) (hM : ∀ b o, (M0.join (pc.join S)) b = some o → M b = some o) (hro : ∀ b o, L.ro b = some o → M b = some o)
    (htab : ∀ a x, tab a = some x → ∃ o, M a = some o)
    (hd1 : ∀ b o, M0 b = some o → pc b = none ∧ S b = none ∧ o.isChan = false ∧ ¬ RO o) (hd2 : ∀ b o, pc b = some o → S b = none ∧ floor o = 0 ∧ o.isChan = false ∧ ¬ RO o)
    (hrun : ∀ ag : Ag, ag.mi = .iface mt mv → S ag.a = none → pc ag.a = none → L.ro ag.a = none → ∀ M', (∀ b o, (((pc.put ag.a (ag.ro kd)).join S).join L.ro) b = some o → M' b = some o) →
      CallM Try.prog fid (fs ++ [(.iface 133 (.agg #[.pointer (some ⟨ag.a, 0, none⟩)]) : Value)] ++ cs').toArray ⟨M', Zl L Try.prog kd ag Ob⟩ (RunsTo L ag (pc.put ag.a (ag.ro kd)) M' S)) :
    CallM Try.prog 11 #[.iface mt mv, .func (.func fid) fs.toArray cs'.toArray] ⟨M, Well L Try.prog kd N W Post tab⟩ (BornTo L N W Post tab (.iface mt mv) M M0 Ob) := by
  unfold CallM
  intro main c cs k1 k2
  cases main with
  | false => exact well_other
  | true =>
  refine r_enter (args := [.iface mt mv, .func (.func fid) fs.toArray cs'.toArray]) Try.func11 rfl rfl rfl ?_
  repeat (refine r_seq ?_)
  refine r_code (by decide) ?_
  refine e_reg rfl ?_
  refine l_y (v := .pointer none) y_assign ?_
  refine l_y (v := .int .i64 0) y_assign ?_
  refine l_end ?_
  refine r_way ?_
  repeat (refine r_seq ?_)
  refine r_code (by decide) ?_
  refine e_reg rfl ?_
  refine l_y (v := .iface mt mv) y_move ?_
  refine l_y (v := .bool false) (y_eql (r := false) rfl rfl rfl rfl) ?_
  refine l_y (v := .bool false) y_move ?_
  refine g_y (v := .func (.func fid) fs.toArray cs'.toArray) (b := false) rfl rfl rfl rfl y_move ?_
  refine g_y (v := .bool false) (b := false) rfl rfl rfl rfl (y_eql (r := false) rfl rfl rfl rfl) ?_
  refine l_y (v := .bool false) (y_pickF (t := false) rfl rfl rfl) ?_
  refine l_end ?_
  refine r_way ?_
  refine r_code (by decide) ?_
  refine e_ifF (t := false) rfl rfl ?_
  refine e_skip ?_
  refine r_way ?_
  repeat (refine r_seq ?_)
  -- the block
  refine r_drawT [[0, 1, 2, 3, 4, 5, 6], [0, 1, 3, 2, 4, 5, 6], [0, 2, 1, 3, 4, 5, 6], [0, 2, 3, 1, 4, 5, 6], [0, 3, 1, 2, 4, 5, 6], [0, 3, 2, 1, 4, 5, 6], [1, 0, 2, 3, 4, 5, 6], [1, 0, 3, 2, 4, 5, 6], [1, 2, 0, 3, 4, 5, 6], [1, 2, 3, 0, 4, 5, 6], [1, 3, 0, 2, 4, 5, 6], [1, 3, 2, 0, 4, 5, 6], [2, 0, 1, 3, 4, 5, 6], [2, 0, 3, 1, 4, 5, 6], [2, 1, 0, 3, 4, 5, 6], [2, 1, 3, 0, 4, 5, 6], [2, 3, 0, 1, 4, 5, 6], [2, 3, 1, 0, 4, 5, 6], [3, 0, 1, 2, 4, 5, 6], [3, 0, 2, 1, 4, 5, 6], [3, 1, 0, 2, 4, 5, 6], [3, 1, 2, 0, 4, 5, 6], [3, 2, 0, 1, 4, 5, 6], [3, 2, 1, 0, 4, 5, 6]] [4, 5, 6] (fun rs m' => ∃ ct cr cd, (Mem.mk M (Well L Try.prog kd N W Post tab)).le m' ∧ m' ct = some chO ∧ m' cr = some chO ∧ m' cd = some chO ∧ ct ≠ cr ∧ ct ≠ cd ∧ cr ≠ cd ∧
      Sp.look (argBase [.iface mt mv, .func (.func fid) fs.toArray cs'.toArray]) rs 1 = .func (.func fid) fs.toArray cs'.toArray ∧ Sp.look (argBase [.iface mt mv, .func (.func fid) fs.toArray cs'.toArray]) rs 13 = .iface mt mv ∧ Sp.look (argBase [.iface mt mv, .func (.func fid) fs.toArray cs'.toArray]) rs 14 = .chan (some ct) ∧
      Sp.look (argBase [.iface mt mv, .func (.func fid) fs.toArray cs'.toArray]) rs 15 = .chan (some cr) ∧ Sp.look (argBase [.iface mt mv, .func (.func fid) fs.toArray cs'.toArray]) rs 16 = .chan (some cd)) mixed (by kernel_rfl) ?_ ?_
  case refine_2 =>
    intro cont
    simp only [List.forall_mem_cons, List.not_mem_nil, false_implies, implies_true, and_true]
    refine ⟨?_, ?_, ?_, ?_, ?_, ?_, ?_, ?_, ?_, ?_, ?_, ?_, ?_, ?_, ?_, ?_, ?_, ?_, ?_, ?_, ?_, ?_, ?_, ?_⟩
    · refine r_y (i := 0) (v := .iface mt mv) rfl (by decide) rfl y_move ?_
      refine r_n (i := 1) rfl (by decide) rfl (n_makeChan rfl Try.underlying101 rfl by108) fun b1 h1 => ?_
      refine r_n (i := 2) rfl (by decide) rfl (n_makeChan rfl Try.underlying102 rfl by4) fun b2 h2 => ?_
      refine r_n (i := 3) rfl (by decide) rfl (n_makeChan rfl Try.underlying101 rfl by108) fun b3 h3 => ?_
      obtain ⟨f0, f1, f2, f3, g1, g2, g3⟩ := three h1 h2 h3
      exact cont _ _ ⟨b1, b2, b3, f0, f1, f2, f3, g1, g2, g3, rfl, rfl, rfl, rfl, rfl⟩
    · refine r_y (i := 0) (v := .iface mt mv) rfl (by decide) rfl y_move ?_
      refine r_n (i := 1) rfl (by decide) rfl (n_makeChan rfl Try.underlying101 rfl by108) fun b1 h1 => ?_
      refine r_n (i := 3) rfl (by decide) rfl (n_makeChan rfl Try.underlying101 rfl by108) fun b3 h2 => ?_
      refine r_n (i := 2) rfl (by decide) rfl (n_makeChan rfl Try.underlying102 rfl by4) fun b2 h3 => ?_
      obtain ⟨f0, f1, f3, f2, g1, g2, g3⟩ := three h1 h2 h3
      exact cont _ _ ⟨b1, b2, b3, f0, f1, f2, f3, g2, g1, g3.symm, rfl, rfl, rfl, rfl, rfl⟩
    · refine r_y (i := 0) (v := .iface mt mv) rfl (by decide) rfl y_move ?_
      refine r_n (i := 2) rfl (by decide) rfl (n_makeChan rfl Try.underlying102 rfl by4) fun b2 h1 => ?_
      refine r_n (i := 1) rfl (by decide) rfl (n_makeChan rfl Try.underlying101 rfl by108) fun b1 h2 => ?_
      refine r_n (i := 3) rfl (by decide) rfl (n_makeChan rfl Try.underlying101 rfl by108) fun b3 h3 => ?_
      obtain ⟨f0, f2, f1, f3, g1, g2, g3⟩ := three h1 h2 h3
      exact cont _ _ ⟨b1, b2, b3, f0, f1, f2, f3, g1.symm, g3, g2, rfl, rfl, rfl, rfl, rfl⟩
    · refine r_y (i := 0) (v := .iface mt mv) rfl (by decide) rfl y_move ?_
      refine r_n (i := 2) rfl (by decide) rfl (n_makeChan rfl Try.underlying102 rfl by4) fun b2 h1 => ?_
      refine r_n (i := 3) rfl (by decide) rfl (n_makeChan rfl Try.underlying101 rfl by108) fun b3 h2 => ?_
      refine r_n (i := 1) rfl (by decide) rfl (n_makeChan rfl Try.underlying101 rfl by108) fun b1 h3 => ?_
      obtain ⟨f0, f2, f3, f1, g1, g2, g3⟩ := three h1 h2 h3
      exact cont _ _ ⟨b1, b2, b3, f0, f1, f2, f3, g2.symm, g3.symm, g1, rfl, rfl, rfl, rfl, rfl⟩
    · refine r_y (i := 0) (v := .iface mt mv) rfl (by decide) rfl y_move ?_
      refine r_n (i := 3) rfl (by decide) rfl (n_makeChan rfl Try.underlying101 rfl by108) fun b3 h1 => ?_
      refine r_n (i := 1) rfl (by decide) rfl (n_makeChan rfl Try.underlying101 rfl by108) fun b1 h2 => ?_
      refine r_n (i := 2) rfl (by decide) rfl (n_makeChan rfl Try.underlying102 rfl by4) fun b2 h3 => ?_
      obtain ⟨f0, f3, f1, f2, g1, g2, g3⟩ := three h1 h2 h3
      exact cont _ _ ⟨b1, b2, b3, f0, f1, f2, f3, g3, g1.symm, g2.symm, rfl, rfl, rfl, rfl, rfl⟩
    · refine r_y (i := 0) (v := .iface mt mv) rfl (by decide) rfl y_move ?_
      refine r_n (i := 3) rfl (by decide) rfl (n_makeChan rfl Try.underlying101 rfl by108) fun b3 h1 => ?_
      refine r_n (i := 2) rfl (by decide) rfl (n_makeChan rfl Try.underlying102 rfl by4) fun b2 h2 => ?_
      refine r_n (i := 1) rfl (by decide) rfl (n_makeChan rfl Try.underlying101 rfl by108) fun b1 h3 => ?_
      obtain ⟨f0, f3, f2, f1, g1, g2, g3⟩ := three h1 h2 h3
      exact cont _ _ ⟨b1, b2, b3, f0, f1, f2, f3, g3.symm, g2.symm, g1.symm, rfl, rfl, rfl, rfl, rfl⟩
    · refine r_n (i := 1) rfl (by decide) rfl (n_makeChan rfl Try.underlying101 rfl by108) fun b1 h1 => ?_
      refine r_y (i := 0) (v := .iface mt mv) rfl (by decide) rfl y_move ?_
      refine r_n (i := 2) rfl (by decide) rfl (n_makeChan rfl Try.underlying102 rfl by4) fun b2 h2 => ?_
      refine r_n (i := 3) rfl (by decide) rfl (n_makeChan rfl Try.underlying101 rfl by108) fun b3 h3 => ?_
      obtain ⟨f0, f1, f2, f3, g1, g2, g3⟩ := three h1 h2 h3
      exact cont _ _ ⟨b1, b2, b3, f0, f1, f2, f3, g1, g2, g3, rfl, rfl, rfl, rfl, rfl⟩
    · refine r_n (i := 1) rfl (by decide) rfl (n_makeChan rfl Try.underlying101 rfl by108) fun b1 h1 => ?_
      refine r_y (i := 0) (v := .iface mt mv) rfl (by decide) rfl y_move ?_
      refine r_n (i := 3) rfl (by decide) rfl (n_makeChan rfl Try.underlying101 rfl by108) fun b3 h2 => ?_
      refine r_n (i := 2) rfl (by decide) rfl (n_makeChan rfl Try.underlying102 rfl by4) fun b2 h3 => ?_
      obtain ⟨f0, f1, f3, f2, g1, g2, g3⟩ := three h1 h2 h3
      exact cont _ _ ⟨b1, b2, b3, f0, f1, f2, f3, g2, g1, g3.symm, rfl, rfl, rfl, rfl, rfl⟩
    · refine r_n (i := 1) rfl (by decide) rfl (n_makeChan rfl Try.underlying101 rfl by108) fun b1 h1 => ?_
      refine r_n (i := 2) rfl (by decide) rfl (n_makeChan rfl Try.underlying102 rfl by4) fun b2 h2 => ?_
      refine r_y (i := 0) (v := .iface mt mv) rfl (by decide) rfl y_move ?_
      refine r_n (i := 3) rfl (by decide) rfl (n_makeChan rfl Try.underlying101 rfl by108) fun b3 h3 => ?_
      obtain ⟨f0, f1, f2, f3, g1, g2, g3⟩ := three h1 h2 h3
      exact cont _ _ ⟨b1, b2, b3, f0, f1, f2, f3, g1, g2, g3, rfl, rfl, rfl, rfl, rfl⟩
    · refine r_n (i := 1) rfl (by decide) rfl (n_makeChan rfl Try.underlying101 rfl by108) fun b1 h1 => ?_
      refine r_n (i := 2) rfl (by decide) rfl (n_makeChan rfl Try.underlying102 rfl by4) fun b2 h2 => ?_
      refine r_n (i := 3) rfl (by decide) rfl (n_makeChan rfl Try.underlying101 rfl by108) fun b3 h3 => ?_
      refine r_y (i := 0) (v := .iface mt mv) rfl (by decide) rfl y_move ?_
      obtain ⟨f0, f1, f2, f3, g1, g2, g3⟩ := three h1 h2 h3
      exact cont _ _ ⟨b1, b2, b3, f0, f1, f2, f3, g1, g2, g3, rfl, rfl, rfl, rfl, rfl⟩
    · refine r_n (i := 1) rfl (by decide) rfl (n_makeChan rfl Try.underlying101 rfl by108) fun b1 h1 => ?_
      refine r_n (i := 3) rfl (by decide) rfl (n_makeChan rfl Try.underlying101 rfl by108) fun b3 h2 => ?_
      refine r_y (i := 0) (v := .iface mt mv) rfl (by decide) rfl y_move ?_
      refine r_n (i := 2) rfl (by decide) rfl (n_makeChan rfl Try.underlying102 rfl by4) fun b2 h3 => ?_
      obtain ⟨f0, f1, f3, f2, g1, g2, g3⟩ := three h1 h2 h3
      exact cont _ _ ⟨b1, b2, b3, f0, f1, f2, f3, g2, g1, g3.symm, rfl, rfl, rfl, rfl, rfl⟩
    · refine r_n (i := 1) rfl (by decide) rfl (n_makeChan rfl Try.underlying101 rfl by108) fun b1 h1 => ?_
      refine r_n (i := 3) rfl (by decide) rfl (n_makeChan rfl Try.underlying101 rfl by108) fun b3 h2 => ?_
      refine r_n (i := 2) rfl (by decide) rfl (n_makeChan rfl Try.underlying102 rfl by4) fun b2 h3 => ?_
      refine r_y (i := 0) (v := .iface mt mv) rfl (by decide) rfl y_move ?_
      obtain ⟨f0, f1, f3, f2, g1, g2, g3⟩ := three h1 h2 h3
      exact cont _ _ ⟨b1, b2, b3, f0, f1, f2, f3, g2, g1, g3.symm, rfl, rfl, rfl, rfl, rfl⟩
    · refine r_n (i := 2) rfl (by decide) rfl (n_makeChan rfl Try.underlying102 rfl by4) fun b2 h1 => ?_
      refine r_y (i := 0) (v := .iface mt mv) rfl (by decide) rfl y_move ?_
      refine r_n (i := 1) rfl (by decide) rfl (n_makeChan rfl Try.underlying101 rfl by108) fun b1 h2 => ?_
      refine r_n (i := 3) rfl (by decide) rfl (n_makeChan rfl Try.underlying101 rfl by108) fun b3 h3 => ?_
      obtain ⟨f0, f2, f1, f3, g1, g2, g3⟩ := three h1 h2 h3
      exact cont _ _ ⟨b1, b2, b3, f0, f1, f2, f3, g1.symm, g3, g2, rfl, rfl, rfl, rfl, rfl⟩
    · refine r_n (i := 2) rfl (by decide) rfl (n_makeChan rfl Try.underlying102 rfl by4) fun b2 h1 => ?_
      refine r_y (i := 0) (v := .iface mt mv) rfl (by decide) rfl y_move ?_
      refine r_n (i := 3) rfl (by decide) rfl (n_makeChan rfl Try.underlying101 rfl by108) fun b3 h2 => ?_
      refine r_n (i := 1) rfl (by decide) rfl (n_makeChan rfl Try.underlying101 rfl by108) fun b1 h3 => ?_
      obtain ⟨f0, f2, f3, f1, g1, g2, g3⟩ := three h1 h2 h3
      exact cont _ _ ⟨b1, b2, b3, f0, f1, f2, f3, g2.symm, g3.symm, g1, rfl, rfl, rfl, rfl, rfl⟩
    · refine r_n (i := 2) rfl (by decide) rfl (n_makeChan rfl Try.underlying102 rfl by4) fun b2 h1 => ?_
      refine r_n (i := 1) rfl (by decide) rfl (n_makeChan rfl Try.underlying101 rfl by108) fun b1 h2 => ?_
      refine r_y (i := 0) (v := .iface mt mv) rfl (by decide) rfl y_move ?_
      refine r_n (i := 3) rfl (by decide) rfl (n_makeChan rfl Try.underlying101 rfl by108) fun b3 h3 => ?_
      obtain ⟨f0, f2, f1, f3, g1, g2, g3⟩ := three h1 h2 h3
      exact cont _ _ ⟨b1, b2, b3, f0, f1, f2, f3, g1.symm, g3, g2, rfl, rfl, rfl, rfl, rfl⟩
    · refine r_n (i := 2) rfl (by decide) rfl (n_makeChan rfl Try.underlying102 rfl by4) fun b2 h1 => ?_
      refine r_n (i := 1) rfl (by decide) rfl (n_makeChan rfl Try.underlying101 rfl by108) fun b1 h2 => ?_
      refine r_n (i := 3) rfl (by decide) rfl (n_makeChan rfl Try.underlying101 rfl by108) fun b3 h3 => ?_
      refine r_y (i := 0) (v := .iface mt mv) rfl (by decide) rfl y_move ?_
      obtain ⟨f0, f2, f1, f3, g1, g2, g3⟩ := three h1 h2 h3
      exact cont _ _ ⟨b1, b2, b3, f0, f1, f2, f3, g1.symm, g3, g2, rfl, rfl, rfl, rfl, rfl⟩
    · refine r_n (i := 2) rfl (by decide) rfl (n_makeChan rfl Try.underlying102 rfl by4) fun b2 h1 => ?_
      refine r_n (i := 3) rfl (by decide) rfl (n_makeChan rfl Try.underlying101 rfl by108) fun b3 h2 => ?_
      refine r_y (i := 0) (v := .iface mt mv) rfl (by decide) rfl y_move ?_
      refine r_n (i := 1) rfl (by decide) rfl (n_makeChan rfl Try.underlying101 rfl by108) fun b1 h3 => ?_
      obtain ⟨f0, f2, f3, f1, g1, g2, g3⟩ := three h1 h2 h3
      exact cont _ _ ⟨b1, b2, b3, f0, f1, f2, f3, g2.symm, g3.symm, g1, rfl, rfl, rfl, rfl, rfl⟩
    · refine r_n (i := 2) rfl (by decide) rfl (n_makeChan rfl Try.underlying102 rfl by4) fun b2 h1 => ?_
      refine r_n (i := 3) rfl (by decide) rfl (n_makeChan rfl Try.underlying101 rfl by108) fun b3 h2 => ?_
      refine r_n (i := 1) rfl (by decide) rfl (n_makeChan rfl Try.underlying101 rfl by108) fun b1 h3 => ?_
      refine r_y (i := 0) (v := .iface mt mv) rfl (by decide) rfl y_move ?_
      obtain ⟨f0, f2, f3, f1, g1, g2, g3⟩ := three h1 h2 h3
      exact cont _ _ ⟨b1, b2, b3, f0, f1, f2, f3, g2.symm, g3.symm, g1, rfl, rfl, rfl, rfl, rfl⟩
    · refine r_n (i := 3) rfl (by decide) rfl (n_makeChan rfl Try.underlying101 rfl by108) fun b3 h1 => ?_
      refine r_y (i := 0) (v := .iface mt mv) rfl (by decide) rfl y_move ?_
      refine r_n (i := 1) rfl (by decide) rfl (n_makeChan rfl Try.underlying101 rfl by108) fun b1 h2 => ?_
      refine r_n (i := 2) rfl (by decide) rfl (n_makeChan rfl Try.underlying102 rfl by4) fun b2 h3 => ?_
      obtain ⟨f0, f3, f1, f2, g1, g2, g3⟩ := three h1 h2 h3
      exact cont _ _ ⟨b1, b2, b3, f0, f1, f2, f3, g3, g1.symm, g2.symm, rfl, rfl, rfl, rfl, rfl⟩
    · refine r_n (i := 3) rfl (by decide) rfl (n_makeChan rfl Try.underlying101 rfl by108) fun b3 h1 => ?_
      refine r_y (i := 0) (v := .iface mt mv) rfl (by decide) rfl y_move ?_
      refine r_n (i := 2) rfl (by decide) rfl (n_makeChan rfl Try.underlying102 rfl by4) fun b2 h2 => ?_
      refine r_n (i := 1) rfl (by decide) rfl (n_makeChan rfl Try.underlying101 rfl by108) fun b1 h3 => ?_
      obtain ⟨f0, f3, f2, f1, g1, g2, g3⟩ := three h1 h2 h3
      exact cont _ _ ⟨b1, b2, b3, f0, f1, f2, f3, g3.symm, g2.symm, g1.symm, rfl, rfl, rfl, rfl, rfl⟩
    · refine r_n (i := 3) rfl (by decide) rfl (n_makeChan rfl Try.underlying101 rfl by108) fun b3 h1 => ?_
      refine r_n (i := 1) rfl (by decide) rfl (n_makeChan rfl Try.underlying101 rfl by108) fun b1 h2 => ?_
      refine r_y (i := 0) (v := .iface mt mv) rfl (by decide) rfl y_move ?_
      refine r_n (i := 2) rfl (by decide) rfl (n_makeChan rfl Try.underlying102 rfl by4) fun b2 h3 => ?_
      obtain ⟨f0, f3, f1, f2, g1, g2, g3⟩ := three h1 h2 h3
      exact cont _ _ ⟨b1, b2, b3, f0, f1, f2, f3, g3, g1.symm, g2.symm, rfl, rfl, rfl, rfl, rfl⟩
    · refine r_n (i := 3) rfl (by decide) rfl (n_makeChan rfl Try.underlying101 rfl by108) fun b3 h1 => ?_
      refine r_n (i := 1) rfl (by decide) rfl (n_makeChan rfl Try.underlying101 rfl by108) fun b1 h2 => ?_
      refine r_n (i := 2) rfl (by decide) rfl (n_makeChan rfl Try.underlying102 rfl by4) fun b2 h3 => ?_
      refine r_y (i := 0) (v := .iface mt mv) rfl (by decide) rfl y_move ?_
      obtain ⟨f0, f3, f1, f2, g1, g2, g3⟩ := three h1 h2 h3
      exact cont _ _ ⟨b1, b2, b3, f0, f1, f2, f3, g3, g1.symm, g2.symm, rfl, rfl, rfl, rfl, rfl⟩
    · refine r_n (i := 3) rfl (by decide) rfl (n_makeChan rfl Try.underlying101 rfl by108) fun b3 h1 => ?_
      refine r_n (i := 2) rfl (by decide) rfl (n_makeChan rfl Try.underlying102 rfl by4) fun b2 h2 => ?_
      refine r_y (i := 0) (v := .iface mt mv) rfl (by decide) rfl y_move ?_
      refine r_n (i := 1) rfl (by decide) rfl (n_makeChan rfl Try.underlying101 rfl by108) fun b1 h3 => ?_
      obtain ⟨f0, f3, f2, f1, g1, g2, g3⟩ := three h1 h2 h3
      exact cont _ _ ⟨b1, b2, b3, f0, f1, f2, f3, g3.symm, g2.symm, g1.symm, rfl, rfl, rfl, rfl, rfl⟩
    · refine r_n (i := 3) rfl (by decide) rfl (n_makeChan rfl Try.underlying101 rfl by108) fun b3 h1 => ?_
      refine r_n (i := 2) rfl (by decide) rfl (n_makeChan rfl Try.underlying102 rfl by4) fun b2 h2 => ?_
      refine r_n (i := 1) rfl (by decide) rfl (n_makeChan rfl Try.underlying101 rfl by108) fun b1 h3 => ?_
      refine r_y (i := 0) (v := .iface mt mv) rfl (by decide) rfl y_move ?_
      obtain ⟨f0, f3, f2, f1, g1, g2, g3⟩ := three h1 h2 h3
      exact cont _ _ ⟨b1, b2, b3, f0, f1, f2, f3, g3.symm, g2.symm, g1.symm, rfl, rfl, rfl, rfl, rfl⟩
  rintro rs m' ⟨ct, cr, cd, hle, h_t, h_r, h_d, n1, n2, n3, l1, l13, l14, l15, l16⟩
  obtain ⟨A, st⟩ := m'
  obtain rfl : st = Well L Try.prog kd N W Post tab := hle.1
  have hA : ∀ b o, M b = some o → A b = some o := hle.2
  refine r_pin l1 (r_pin (t := 13) l13 (r_pin (t := 14) l14 (r_pin (t := 15) l15 (r_pin (t := 16) l16 ?_))))
  refine r_y (i := 4) (v := .agg #[.iface mt mv, .chan (some ct), .chan (some cr), .chan (some cd), .bool false]) rfl (by decide) rfl
    (y_build (ps := [(0, .iface mt mv), (1, .chan (some ct)), (2, .chan (some cr)), (3, .chan (some cd))]) (cs := #[.iface mt mv, .chan (some ct), .chan (some cr), .chan (some cd), .bool false]) zr104 rfl pl104 rfl) ?_
  refine r_mkA (i := 5) (mi := .iface mt mv) (v1 := .chan (some ct)) (v2 := .chan (some cr)) (v3 := .chan (some cd)) rfl (by decide) rfl rfl fun z hz => ?_
  refine r_y (i := 6) (v := .pointer (some ⟨z, 0, none⟩)) rfl (by decide) rfl y_assign ?_
  refine r_end ?_
  repeat (refine r_seq ?_)
  refine r_reg ?_
  refine r_y (i := 0) (v := .pointer (some ⟨z, 0, none⟩)) rfl (by decide) rfl y_move ?_
  refine r_y (i := 1) (v := .func (.func fid) fs.toArray cs'.toArray) rfl (by decide) rfl y_move ?_
  have hzM : ∀ {b o}, M b = some o → b ≠ z := fun h e => by subst e; rw [hA _ _ h] at hz; cases hz
  have hzA : ∀ {b o}, A b = some o → b ≠ z := fun h e => by subst e; rw [h] at hz; cases hz
  have hM0M : ∀ b o, M0 b = some o → M b = some o := fun b o h => hM b o (Part.join_l h)
  have hpcM : ∀ b o, pc b = some o → M b = some o := fun b o h => hM b o (by
    have : M0 b = none := by cases e : M0 b with | none => rfl | some x => rw [(hd1 b x e).1] at h; cases h
    rw [Part.join_r this]; exact Part.join_l h)
  have hSM : ∀ b o, S b = some o → M b = some o := fun b o h => hM b o (by
    have e1 : M0 b = none := by cases e : M0 b with | none => rfl | some x => rw [(hd1 b x e).2.1] at h; cases h
    have e2 : pc b = none := by cases e : pc b with | none => rfl | some x => rw [(hd2 b x e).1] at h; cases h
    rw [Part.join_r e1, Part.join_r e2]; exact h)
  have none_of : ∀ {p : Part}, (∀ b o, p b = some o → M b = some o) → p z = none := fun {p} h => by
    cases e : p z with
    | none => rfl
    | some o => exact absurd rfl (hzM (h z o e))
  have hput : ∀ (p : Part) (X : Obj) b, b ≠ z → (p.put z X) b = p b := fun p X b hb => by simp only [Part.put]; rw [if_neg hb]
  have hputz : ∀ (p : Part) (X : Obj), (p.put z X) z = some X := fun p X => by simp [Part.put]
  refine r_go (i := 2) (d := ⟨.fn (.func 49) #[], #[.pointer (some ⟨z, 0, none⟩), .func (.func fid) fs.toArray cs'.toArray]⟩) (fun j => ⟨j, z, ct, cr, cd, .iface mt mv⟩) (fun j => ⟨rfl, rfl, rfl, rfl, rfl, rfl⟩) (M0 := M0.put z (agB ⟨0, z, ct, cr, cd, .iface mt mv⟩ false)) (S := S) (pc := pc) (Ob := Ob)
    (hM := fun g₂ => ∀ (j : Nat) flag st' S', Ob flag st' S' → L.inv S' → (∀ b o, (M0.put z (agB ⟨0, z, ct, cr, cd, .iface mt mv⟩ false)) b = some o → S' b = none) → RunM Try.prog true (Go.Conc.served g₂ (.bool flag)) ⟨((M0.put z (agB ⟨0, z, ct, cr, cd, .iface mt mv⟩ false)).join S').join L.ro, Well L Try.prog kd N W Post (fun a => if a = z then (if flag = true then none else some (⟨j, z, ct, cr, cd, .iface mt mv⟩, st')) else tab a)⟩)
    rfl (by decide) (resolve_fn (first := []) (cap := []) (l := [.pointer (some ⟨z, 0, none⟩), .func (.func fid) fs.toArray cs'.toArray]) rfl rfl) rfl ?_ hS ⟨n2, n1.symm, n3⟩ (fun b o h => ?_) (fun c hc => ?_) (fun b o h => ?_) (fun b o h => ?_) (none_of hSM) (fun j => ?_) ?_ (fun j g₂ h => h j)
  · cases e : tab z with
    | none => rfl
    | some x => obtain ⟨o, ho⟩ := htab z x e; exact absurd rfl (hzM ho)
  · by_cases hb : b = z
    · subst hb
      rw [Part.join_l (hputz _ _)] at h
      obtain rfl := Option.some.inj h
      exact hputz _ _
    · rw [hput _ _ b hb]
      refine hA b o (hM b o ?_)
      rcases Part.join_cases h with h | ⟨e1, h⟩
      · rw [hput _ _ b hb] at h; exact Part.join_l h
      · rw [hput _ _ b hb] at e1; rw [Part.join_r e1]; exact h
  · rcases hc with rfl | rfl | rfl
    · rw [hput _ _ _ (hzA h_t)]; exact h_t
    · rw [hput _ _ _ (hzA h_r)]; exact h_r
    · rw [hput _ _ _ (hzA h_d)]; exact h_d
  · by_cases hb : b = z
    · subst hb
      rw [hputz] at h
      obtain rfl := Option.some.inj h
      exact ⟨none_of hpcM, none_of hSM, rfl, ro_less (Nat.lt_succ_self 4)⟩
    · rw [hput _ _ b hb] at h; exact hd1 b o h
  · obtain ⟨i1, i2, i3, i4⟩ := hd2 b o h
    exact ⟨i1, hzM (hpcM b o h), i2, i3, i4⟩
  · have e1 : ∀ b o, S b = some o → ((pc.put z (Ag.ro kd ⟨j, z, ct, cr, cd, .iface mt mv⟩)).join S) b = some o := fun b o h => by
      have e2 : (pc.put z (Ag.ro kd ⟨j, z, ct, cr, cd, .iface mt mv⟩)) b = none := by
        rw [hput _ _ b (hzM (hSM b o h))]
        cases e : pc b with | none => rfl | some x => rw [(hd2 b x e).1] at h; cases h
      rw [Part.join_r e2]; exact h
    exact c_born (ag := ⟨j, z, ct, cr, cd, .iface mt mv⟩) (S := S) (pc := pc.put z (Ag.ro kd ⟨j, z, ct, cr, cd, .iface mt mv⟩)) hbd (fun b o h => Part.join_l (Part.join_l h))
      (fun M' hM' => hrun ⟨j, z, ct, cr, cd, .iface mt mv⟩ rfl (none_of hSM) (none_of hpcM) (none_of hro) M' hM') (fun b o h => Part.join_l (e1 b o h))
  · refine q_end ?_
    repeat (refine q_seq ?_)
    refine q_reg ?_
    refine q_y (i := 0) (v := .pointer (some ⟨z, 0, none⟩)) rfl (by decide) rfl calm_move y_move ?_
    refine q_y (i := 1) (v := .pointer (some ⟨z, 0, none⟩)) rfl (by decide) rfl calm_move y_move ?_
    refine q_y (i := 2) (v := .pointer (some ⟨z, 0, none⟩)) rfl (by decide) rfl (calm_nilCheck rfl) (y_nilCheck rfl) ?_
    refine q_y (i := 3) (v := .pointer (some ⟨z, 2, none⟩)) rfl (by decide) rfl (calm_field rfl Try.underlying104 rfl sz102) (y_fieldB rfl Try.underlying104 rfl sz102 rfl) ?_
    refine q_y (i := 4) (v := .chan (some cr)) rfl (by decide) rfl (calm_load rfl ag102) (y_loadB (b := z) (o := 2) (c := #[.iface mt mv, .chan (some ct), .chan (some cr), .chan (some cd)]) (e := 104) (z := (0, 4)) rfl ag102 (if_pos rfl) rfl) ?_
    refine q_at (i := 5) rfl (by decide) (run_recv (c := cr) rfl Try.underlying102 rfl zr4) ?_
    intro a2 ha2 j flag st' S' ho hi hd
    rw [served_at rfl]
    refine (?_ : AtF Try.prog true { (default : Frame) with fn := 11, kind := .normal } _ _ 30 _ _ _ _) _ (ha2.put (dst := some 26) rfl (.bool flag))
    have hM1 : (Mem.mk (((M0.put z (agB ⟨0, z, ct, cr, cd, .iface mt mv⟩ false)).join S').join L.ro) (Well L Try.prog kd N W Post (fun a => if a = z then (if flag = true then none else some (⟨j, z, ct, cr, cd, .iface mt mv⟩, st')) else tab a))) z = some (agB ⟨0, z, ct, cr, cd, .iface mt mv⟩ false) := Part.join_l (Part.join_l (hputz _ _))
    refine r_y (i := 6) (v := .pointer (some ⟨z, 0, none⟩)) rfl (by decide) rfl (y_nilCheck rfl) ?_
    refine r_y (i := 7) (v := .pointer (some ⟨z, 4, none⟩)) rfl (by decide) rfl (y_fieldB rfl Try.underlying104 rfl sz4 rfl) ?_
    refine r_d (i := 8) rfl (by decide) (d_store1F (v := .bool flag) rfl rfl rfl rfl sz4 hM1 (Nat.lt_succ_self 4) (Nat.le_refl 4)) ?_
    refine r_end ?_
    refine r_code (by decide) ?_
    refine e_seq ?_
    refine e_reg rfl ?_
    refine l_y (v := .pointer (some ⟨z, 0, none⟩)) y_move ?_
    refine l_y (v := .pointer (some ⟨z, 0, none⟩)) y_assign ?_
    refine l_y (v := .int .i64 0) y_assign ?_
    refine l_end ?_
    refine e_then ?_
    refine e_ret ?_
    exact r_ret (l := [.pointer (some ⟨z, 0, none⟩), .int .i64 0]) Try.func11 (.inl rfl) (resVals_cons (resVal_tmp rfl) (resVals_cons (resVal_tmp rfl) resVals_nil)) (Mem.le_refl _) (k1 _ _ ⟨⟨j, z, ct, cr, cd, .iface mt mv⟩, flag, st', S', rfl, none_of fun _ _ h => h, ho, hi, hd, rfl, rfl⟩)
end
end Go.Proofs.Ytpgooljdodijlaa
