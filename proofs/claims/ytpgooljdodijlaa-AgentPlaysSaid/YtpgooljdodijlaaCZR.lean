/-
  What is proved: beginnings and small facts for the law of agents that play. Conditions: those that each theorem names.
-/
import Derived.Test.YtpgooljdodijlaaCZQ
namespace Go.Proofs.Ytpgooljdodijlaa
open Go Go.Sp Go.Conc Go.RowKit
attribute [local irreducible] Code.wps OpsS OpsL Oper.wps Sem.wpm CallM RunM
set_option linter.unusedSimpArgs false
set_option linter.unusedVariables false
abbrev PTab := Nat → Option (Ag × (Nat × List Tch × Int))
structure B3 where
  k : Nat
  M : Part
  O : Part
  tab : PTab
  gs : List Ag
  av : Value
  ab : Option Nat
  wv : Value
  wb : Option Nat
structure B4 where
  k : Nat
  ps : List (Nat × Int)
  s : Sh
  tab : PTab
  M : Part
  O : Part
  mv : Value
  mb : Option Nat
structure B5 where
  k : Nat
  ps : List (Nat × Int)
  tab : PTab
  M : Part
set_option maxRecDepth 20000 in
theorem eqb_self (b : Bool) : eqScalar Try.prog 4 (.bool b) (.bool b) = some true := by cases b <;> rfl
theorem wordsV_at {l : List Int} {j : Nat} {v : Int} (h : l[j]? = some v) : (wordsV l)[j]? = some (.int .u64 v) := by
  have hl := (List.getElem?_eq_some_iff.1 h).1
  rw [wordsV_get hl, List.getD_eq_getElem?_getD, h]; rfl
def s0P (nw nl : Nat) : Sh := ⟨List.replicate nw 0, 0, -1, List.replicate nl 0⟩
theorem pl_start {W : World} {ba bw bl nw nl : Nat} {h3 : Three ba bw bl} {h2 : ∀ b o, roW W b = some o → b ≠ ba ∧ b ≠ bw ∧ b ≠ bl} {M : Part} (f1 : M bw = some (.cells (wordsV (List.replicate nw 0)) 31)) (f2 : M ba = some (arB bw (List.replicate nw 0) 0 (-1))) (f3 : M bl = some (.cells (Array.replicate nl (.int .u64 0)) 31))
    (hup : ∀ b o, roW W b = some o → M b = some o) : Pl W ba bw bl nw nl h3 h2 [] [] [] (s0P nw nl) (fun _ => none) M (fun _ => none) := by
  refine ⟨rfl, rfl, ⟨Mn.begin ⟨_, rfl, by simp [s0P], by simp [s0P]⟩ (fun b o h => ?_) hup, fun b o h => by cases h⟩, fun j p h => by simp at h, by simp [s0P], by simp [s0P]⟩
  rcases plS_some h with ⟨rfl, rfl⟩ | ⟨rfl, rfl⟩ | ⟨rfl, rfl⟩
  · exact f2
  · exact f1
  · rw [f3]; congr 2; simp [s0P, wordsV]
theorem own_start {nw bm : Nat} : Own3 (Part.put (fun _ => none) bm (.cells (Array.replicate nw (.int .u64 0)) 31)) [] [] [] (List.replicate nw 0) (.slice none 0 0) none (.slice none 0 0) none (.slice (some ⟨bm, 0, none⟩) nw nw) (some bm) := by
  refine ⟨.inl ⟨rfl, rfl, rfl, rfl⟩, .inl ⟨rfl, rfl, rfl, rfl⟩, .inr ⟨bm, nw, [], rfl, by simp, ?_, by simp [wordsL], by simp [wordsL], by simp⟩, .inr rfl, .inr rfl, .inr rfl⟩
  refine (Part.put_same (fun _ => none) bm (.cells (Array.replicate nw (.int .u64 0)) 31)).trans ?_
  congr 2
  simp [wordsL]
theorem s0P_ls {nw nl k : Nat} (h : k < nl) : (s0P nw nl).ls[k]? = some 0 := by simp [s0P, h]
theorem hbA6 (c : Prop) [Decidable c] : intOp .eql .i64 (if c then 0 else 6) 0 = some (.bool (decide c)) := by by_cases h : c <;> simp [intOp, h]
theorem hbB6 {c : Prop} [Decidable c] (h : ¬ c) : intOp .eql .i64 (if c then 0 else 6) 6 = some (.bool true) := by simp [intOp, h]
theorem hbT {t' t : Int} {b : Bool} (h : t' = if b = true then IntKind.u64.wrap (t + 1) else t) : intOp .eql .u64 t' (IntKind.u64.wrap (t + 1)) = some (.bool b) := by
  cases b with
  | true => rw [if_pos rfl] at h; subst h; exact int_eq_self _
  | false =>
    rw [if_neg (by simp)] at h
    subst h
    show some (Value.bool (t' == IntKind.u64.wrap (t' + 1))) = _
    rw [beq_false_of_ne (wrap_ne t')]
theorem hbG {a b : Nat} : intOp .geq .i64 ((a : Nat) : Int) ((b : Nat) : Int) = some (.bool (decide (b ≤ a))) := by simp [intOp]
theorem hbL {a b : Nat} (h : a < b) : intOp .lss .i64 ((a : Nat) : Int) ((b : Nat) : Int) = some (.bool true) := by simp [intOp, h]
theorem rowT_at {M : Part} {po : Option Addr} {l : List Tch} {j : Nat} {x : Tch} (h : RowT M po l) (hx : l[j]? = some x) : ∃ br o c e z, po = some ⟨br, o, none⟩ ∧ M br = some (.cells c e z) ∧ c[o + j * 3]? = some (.int .u8 x.d) ∧ c[o + j * 3 + 1]? = some (.int .i64 x.a) ∧ c[o + j * 3 + 2]? = some (.int .u64 x.v) := by
  rcases h with h | ⟨br, o, c, e, z, h1, h2, h3⟩
  · subst h; simp at hx
  · obtain ⟨q0, q1, q2⟩ := h3 j x hx
    exact ⟨br, o, c, e, z, h1, h2, q0, q1, q2⟩
theorem Own3.cast {O : Part} {gs : List Ag} {rs : List Rw} {pw : List (Nat × Int)} {mw mw' : List Int} {av wv mv : Value} {ab wb mb : Option Nat} (T : Own3 O gs rs pw mw av ab wv wb mv mb) (h : mw = mw') : Own3 O gs rs pw mw' av ab wv wb mv mb := by subst h; exact T
end Go.Proofs.Ytpgooljdodijlaa
