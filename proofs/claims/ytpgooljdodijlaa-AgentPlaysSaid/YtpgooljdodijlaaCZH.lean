/-
  What is proved: further small facts for laws over agents: a law's walk at frames; slices. Conditions: those that each theorem names.
-/
import Derived.Test.YtpgooljdodijlaaCZG
namespace Go.Proofs.Ytpgooljdodijlaa
open Go Go.Sp Go.Conc Go.RowKit
attribute [local irreducible] Code.wps OpsS OpsL Oper.wps Sem.wpm CallM RunM
set_option linter.unusedSimpArgs false
set_option linter.unusedVariables false
section
variable {P : Program}
/-- A law returns true, and nobody sits. -/
theorem law_way {f : FuncId} {fn : Func} {t n : Nat} {L : Lw} {N : Nat} {W : World} {Post : Value → World → Prop} {k : List Item} {base : Nat → Value} {rs : List (Nat × Value)} {m : Mem} (hf : P.funcs[f]? = some fn) (hr : fn.results = #[.tmp t]) (hi : P.inits.idxOf? f = none) (hP : ∀ w, Below N W w → Post (.bool true) w)
    (h : Sp.look base rs t = .bool true) (hs : m.stop = Well L P kd N W Post fun _ => none) : WayE (AfterS P true { (default : Frame) with fn := f, kind := .normal } k []) .ret n base rs [] m := by
  intro a ha todo
  obtain ⟨A, st⟩ := m
  obtain rfl : st = _ := hs
  refine run_fin fun w _ hB => ?_
  have h2 : a.tmps.getD t undef = .bool true := by rw [← h]; exact ha.slots t
  have hrr : (results fn a.tmps).run P w = .ok (.bool true) w := by rw [← h2]; exact results_tmp hr a.tmps P w
  have hev : (results fn a.tmps).events P w #[] = #[] := events_results_tmp hr a.tmps #[]
  refine ⟨rfl, .bool true, #[], ?_, fun e he => by simp at he, hP w hB⟩
  simp [G, Frame.at, stepG, unwind, doReturn, ha.defers, hf, hrr, hev, hi, GStep.after, seen_none]
/-- Where nobody sits, another law of agents may be taken. -/
theorem r_swap {L L' : Lw} {N : Nat} {W : World} {Post : Value → World → Prop} (hro : ∀ b o, L'.ro b = some o → L.ro b = some o) {bf : Frame} {kk : List Item} {cs : List Frame} {n : Nat} {base : Nat → Value} {rs : List (Nat × Value)} {ds : List Deferred} {M : Part}
    (h : AtF P true bf kk cs n base rs ds ⟨M, Well L' P kd N W Post fun _ => none⟩) : AtF P true bf kk cs n base rs ds ⟨M, Well L P kd N W Post fun _ => none⟩ := fun a ha => RunM.weak (h a ha) fun _ _ _ _ _ hx => well_swap hro hx
end
/-- A slice of bytes that came in. -/
structure InU8 (W : World) (p : Option Addr) (l : List Nat) : Prop where
  lay : l ≠ [] → ∃ b o c e f, p = some ⟨b, o, none⟩ ∧ W.heap[b]? = some (.cells c e f) ∧ ∀ (j : Nat) (h : j < l.length), c[o + j]? = some (.int .u8 ((l[j] : Nat) : Int))
  small : ∀ x ∈ l, x < 256
/-- .. as what is only read has it. -/
theorem InU8.at {W : World} {p : Option Addr} {l : List Nat} (h : InU8 W p l) {M : Part} (hM : ∀ b o, roW W b = some o → M b = some o) (hl : l ≠ []) :
    ∃ b o c e, p = some ⟨b, o, none⟩ ∧ M b = some (.cells c e (0, c.size)) ∧ o + l.length ≤ c.size ∧ ∀ (j : Nat) (h : j < l.length), c[o + j]? = some (.int .u8 ((l[j] : Nat) : Int)) := by
  obtain ⟨b, o, c, e, f, h1, h2, h3⟩ := h.lay hl
  have hpos : 0 < l.length := List.length_pos_iff.2 hl
  have hlast := (Array.getElem?_eq_some_iff.1 (h3 (l.length - 1) (by omega))).1
  have h0 : c.size ≠ 0 := by omega
  exact ⟨b, o, c, e, h1, hM b _ (roW_of h2 h0), by omega, h3⟩
def u8s (l : List Nat) : List Value := l.map fun x => .int .u8 ((x : Nat) : Int)
theorem InU8.sl {W : World} {p : Option Addr} {l : List Nat} {c : Nat} (h : InU8 W p l) {M : Part} {st : Stp} (hM : ∀ b o, roW W b = some o → M b = some o) : SlR ⟨M, st⟩ 1 (.slice p l.length c) l.length (u8s l) := by
  by_cases hl : l = []
  · subst hl; exact .inl ⟨p, c, rfl, rfl, rfl⟩
  · obtain ⟨b, o, cc, e, h1, h2, h3, h4⟩ := h.at hM hl
    refine .inr ⟨b, o, c, cc, e, (0, cc.size), by rw [h1], h2, by omega, ?_⟩
    apply List.ext_getElem
    · simp [u8s]; omega
    · intro j i1 i2
      simp only [u8s, List.length_map] at i2
      have := h4 j i2
      rw [Array.getElem?_eq_some_iff] at this
      obtain ⟨i3, i4⟩ := this
      simp only [List.getElem_take, List.getElem_drop, Array.getElem_toList, u8s, List.getElem_map]
      exact i4
theorem wrap8 {k : IntKind} (hk : k = .i64) {x : Nat} (h : x < 2 ^ 62) : k.wrap ((x : Nat) : Int) = ((x : Nat) : Int) := by
  subst hk
  simp only [IntKind.wrap, IntKind.signed, IntKind.bits, Bool.true_and]
  split <;> simp_all <;> omega
theorem wrapu64 {x : Nat} (h : x < 2 ^ 62) : IntKind.u64.wrap ((x : Nat) : Int) = ((x : Nat) : Int) := by
  simp only [IntKind.wrap, IntKind.signed, IntKind.bits]
  simp; omega
theorem wrapu8 {x : Nat} (h : x < 256) : IntKind.u8.wrap ((x : Nat) : Int) = ((x : Nat) : Int) := by
  simp only [IntKind.wrap, IntKind.signed, IntKind.bits]
  simp; omega
/-- What is so behind a law: it returned true, and what lay there before lies there as it did. -/
def PostL (W : World) (v : Value) (w' : World) : Prop := v = .bool true ∧ Below W.heap.size W w'
theorem y_convertW {P : Program} {ρ : Operand → Value} {m : Mem} {dst : Option Tmp} {ty : TypeId} {pos : String} {after : Array Edge} {g : Option (Nat × Bool)} {s d : TypeId} {x : Operand} {j k : IntKind} {n n' : Int} (hx : ρ x = .int j n) {ds : TypeDesc} (hs : P.underlying s = some ds) (hd : P.underlying d = some (.int k)) (hw : k.wrap n = n') :
    Sp.Yields P ⟨dst, .convert s d x, ty, pos, after, g⟩ ρ m (.int k n') m := by rw [← hw]; exact y_convert hx hs hd
/-- Three blocks are made. -/
theorem start3 {P : Program} {main : Bool} {bf : Frame} {kk : List Item} {cs : List Frame} {n : Nat} {base : Nat → Value} {rs : List (Nat × Value)} {ds : List Deferred} {m : Mem} {bw ba be : Nat} {A B C : Obj} (hbw : m bw = none) (hba : (m.set bw A) ba = none) (hbe : ((m.set bw A).set ba B) be = none)
    (h : ∀ M1 : Part, M1 bw = some A → M1 ba = some B → M1 be = some C → Three ba bw be → (∀ b o, m b = some o → M1 b = some o) → (∀ b o, m b = some o → b ≠ ba ∧ b ≠ bw ∧ b ≠ be) → AtF P main bf kk cs n base rs ds ⟨M1, m.stop⟩) : AtF P main bf kk cs n base rs ds (((m.set bw A).set ba B).set be C) := by
  obtain ⟨n1, hba'⟩ := Mem.none_set hba
  obtain ⟨n2, hbe'⟩ := Mem.none_set hbe
  obtain ⟨n3, hbe''⟩ := Mem.none_set hbe'
  refine h (((m.set bw A).set ba B).set be C).at_ ?_ ?_ (Mem.set_same _ _ _) ⟨n1, n2.symm, n3.symm⟩ (up_new (up_new (up_new (fun _ _ h => h) hbw) hba) hbe) (fun b o e => ⟨Mem.ne_none e hba', Mem.ne_none e hbw, Mem.ne_none e hbe''⟩)
  · exact Mem.miss n3.symm (Mem.miss n1.symm (Mem.hit _ _ _))
  · exact Mem.miss n2.symm (Mem.hit _ _ _)
/-- The agents' pointers. -/
def ptrs (gs : List Ag) : List Value := gs.map fun a => .pointer (some ⟨a.a, 0, none⟩)
end Go.Proofs.Ytpgooljdodijlaa
