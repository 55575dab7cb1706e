/-
  What is proved: 'demesnelaw12.AgentCounts' as it was given. No condition.
-/
import Derived.Test.YtpgooljdodijlaaCZL
import Derived.Test.YtpgooljdodijlaaRows
import Derived.Conc.LeavingOf
import Derived.ProofKit
import Derived.OpenShut
namespace Go.Proofs.Ytpgooljdodijlaa
open Go Go.Sp Go.Conc Go.RowKit
set_option linter.unusedSimpArgs false
set_option linter.unusedVariables false
open Go.ChangeShapes Go.WideShapes Go.ChangeAt
theorem Try.own : ownKnob Try.prog.godebug = none := by kernel_rfl
theorem Try.laidOut : laidOutB Try.prog = true := by kernel_rfl
theorem Try.cell5 : Try.prog.cellsOf 5 = 1 := by kernel_rfl
set_option maxRecDepth 100000 in
/-- A slice of bytes, as a law is given it. -/
theorem inU8_of {H : Type} {enc : TypeId × Value → H} {W : World} {base : Nat} {v : Value} {d : DataW H} {p : List MemPlace} (hv : Value.okWide Try.prog W .any base 37 v) (h : DataW.Trod enc Try.prog W 0 (fun _ => true) true 37 v d p) :
    ∃ (l : List Nat) (a : Option Addr) (c : Nat), v = .slice a l.length c ∧ InU8 W a l := by
  obtain ⟨a0, len, cap, rfl⟩ := okWide_slice Try.underlying37 hv
  obtain ⟨fuel, hf⟩ := h
  rcases open_ints Try.underlying37 Try.underlying5 Try.cell5 hf with ⟨hcs, hx⟩ | ⟨a, len', cap', zs, hcs, _, hl, hm, hz, hx, hcell, hwz⟩
  · simp [Value.cells] at hcs
    obtain ⟨rfl, rfl, rfl⟩ := hcs
    exact ⟨[], none, 0, rfl, fun h => absurd rfl h, fun x hx => by simp at hx⟩
  · simp [Value.cells] at hcs
    obtain ⟨rfl, rfl, rfl⟩ := hcs
    rw [if_pos rfl] at hz
    have hlen : ((zs.take len).map Int.toNat).length = len := by simp; omega
    have hu : ∀ n ∈ zs, 0 ≤ n ∧ n < 256 := fun n hn => by
      have := hwz n hn
      simp [Lit.wf, IntKind.min, IntKind.max, IntKind.signed, IntKind.bits] at this
      omega
    refine ⟨(zs.take len).map Int.toNat, some a, cap, by rw [hlen], ⟨fun hne => ?_, fun x hx => ?_⟩⟩
    · have hp : 0 < zs.length := by
        rcases zs with _ | ⟨z, zs⟩
        · simp at hne
        · simp
      obtain ⟨b, o, rfl, hc⟩ := ints_at hcell hp
      have h0 := hc 0 hp
      unfold World.cell? at h0
      rcases hb : W.heap[b]? with _ | o'
      · rw [hb] at h0; cases h0
      · rw [hb] at h0
        cases o' with
        | cells c e f =>
          refine ⟨b, o, c, e, f, rfl, hb, fun j hj => ?_⟩
          have hj2 : j < zs.length := by rw [hlen] at hj; omega
          have hcj := hc j hj2
          unfold World.cell? at hcj
          rw [hb] at hcj
          simp only [Option.isSome_none] at hcj
          have e1 : zs.getD j 0 = zs[j] := by simp [List.getD, hj2]
          rw [e1] at hcj
          have e2 := hu zs[j] (List.getElem_mem hj2)
          have e3 : (((((zs.take len).map Int.toNat)[j] : Nat)) : Int) = zs[j] := by simp; omega
          rw [e3]
          exact hcj
        | _ => cases h0
    · simp only [List.mem_map] at hx
      obtain ⟨n, hn, rfl⟩ := hx
      have := hu n (List.mem_of_mem_take hn)
      omega
set_option maxRecDepth 100000 in
theorem agentCounts_lifted (os : Os) (started : os.Started) (H : Type) (enc : TypeId × Value → H) :
    ReturnsInLeavingWide {} Try.checked os 4 .any (Rows.agentCountsSpec.pre6 enc Try.prog Try.f4 Rows.agentCountsRow.domain false) (Rows.agentCountsSpec.post enc Try.prog Try.f4 false true false false) := by
  refine returnsInLeavingWide_of_change_sized (C := Try.checked) Try.own started Try.func4
    (ChangeSpec.witness6 (enc := enc) (C := Try.checked) false ⟨#[], #[.slice none 0 0, .slice none 0 0], []⟩ 8 (by kernel_rfl) (by kernel_rfl) (by kernel_rfl) (by kernel_rfl)) ?_
  intro W base args ds gs before hval0 hW _ _ _
  have hval : ∀ (j : Nat) t v, Try.f4.params[j]? = some t → args[j]? = some v → Value.okWide Try.prog W .any base t v := hval0
  have hW' := hW
  obtain ⟨p, q, hA0, hV, rfl, _, _⟩ := hW
  have hA : DataW.TrodAll enc Try.prog W 0 (fun _ => true) true Try.f4.params.toList args.toList ds p := hA0
  rw [Try.params4] at hA hval
  obtain ⟨v0, v1, d0, d1, p0, p1, rfl, rfl, rfl, h0, h1⟩ := trodAll_two hA
  obtain ⟨rfl, rfl⟩ := trodVars_none hV
  have h0k := h0
  have h1k := h1
  obtain ⟨tl, pt, ct, rfl, htl⟩ := inU8_of (hval 0 37 v0 rfl rfl) h0
  obtain ⟨ol, po, co, rfl, hol⟩ := inU8_of (hval 1 37 v1 rfl rfl) h1
  clear hA0 hval0
  try simp only [List.append_nil] at hW'
  have hlt : ∀ x ∈ p0 ++ p1, x.block < W.heap.size := fun x hx => by simpa using hW'.lt x hx
  obtain ⟨M, last, o, w', t', r1, r2, r3, r4⟩ := counts_run W tl ol pt po ct co htl hol
  refine ⟨M, last, o, w', t', r1, r2, r3, r4.mono fun v hF => ?_⟩
  obtain ⟨rfl, hbelow⟩ : PostL W v w' := hF
  have ha0 : DataW.Trod enc Try.prog w' 0 (fun b => decide (b < W.heap.size)) true 37 (.slice pt tl.length ct) d0 p0 :=
    Below.trod Try.laidOut (by kernel_rfl) (of_decide_eq_true (by kernel_rfl)) h0k hbelow fun x hx => hlt x (List.mem_append_left _ hx)
  have ha1 : DataW.Trod enc Try.prog w' 0 (fun b => decide (b < W.heap.size)) true 37 (.slice po ol.length co) d1 p1 :=
    Below.trod Try.laidOut (by kernel_rfl) (of_decide_eq_true (by kernel_rfl)) h1k hbelow fun x hx => hlt x (List.mem_append_right _ hx)
  exact ⟨_, _, _, [], _, [], hW', trodAll_mk1 (shut_bool Try.underlying4 true), trodAll_mk2 ha0 ha1, rfl, hbelow.frame _, fun h => by cases h⟩
theorem agentCounts_holds : Rows.AgentCountsSaid :=
  OpenClaim.holds_of_wide_leaving 4 Try.f4 rfl rfl rfl rfl rfl rfl rfl ⟨rfl, rfl, rfl, rfl, rfl⟩ rfl rfl rfl rfl rfl (by kernel_rfl) Try.func4 (by kernel_rfl)
    (of_decide_eq_true (by kernel_rfl)) (by unfold Func.isWrapper; first | (rw [if_pos (by decide +kernel)]; kernel_rfl) | (rw [if_neg (by decide +kernel)]; exact ⟨rfl, rfl⟩))
    (fun os started H enc _ => agentCounts_lifted os started H enc)
#print axioms agentCounts_holds
end Go.Proofs.Ytpgooljdodijlaa
