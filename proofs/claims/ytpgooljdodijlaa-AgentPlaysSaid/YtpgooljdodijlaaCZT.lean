/-
  What is proved: 'demesnelaw12.AgentPlays' as it was given. No condition.
-/
import Derived.Test.YtpgooljdodijlaaCZS
import Derived.Test.YtpgooljdodijlaaCZM
import Derived.Deep.Strs
namespace Go.Proofs.Ytpgooljdodijlaa
open Go Go.Sp Go.Conc Go.RowKit
set_option linter.unusedSimpArgs false
set_option linter.unusedVariables false
open Go.ChangeShapes Go.WideShapes Go.ChangeAt
theorem Try.cell49 : Try.prog.cellsOf 49 = 1 := by kernel_rfl
theorem Try.cell57 : Try.prog.cellsOf 57 = 3 := by kernel_rfl
theorem Try.cell3 : Try.prog.cellsOf 3 = 1 := by kernel_rfl
theorem Try.cell31 : Try.prog.cellsOf 31 = 1 := by kernel_rfl
theorem list_of {α : Type} {Q : Nat → α → Prop} : ∀ n, (∀ k, k < n → ∃ x, Q k x) → ∃ l : List α, l.length = n ∧ ∀ (k : Nat) x, l[k]? = some x → Q k x := by
  intro n
  induction n with
  | zero => exact fun _ => ⟨[], rfl, fun k x h => by simp at h⟩
  | succ n ih =>
    intro h
    obtain ⟨l, h1, h2⟩ := ih fun k hk => h k (by omega)
    obtain ⟨x, hx⟩ := h n (by omega)
    refine ⟨l ++ [x], by simp [h1], fun k y hy => ?_⟩
    by_cases hk : k < n
    · rw [List.getElem?_append_left (by omega)] at hy
      exact h2 k y hy
    · have hl := (List.getElem?_eq_some_iff.1 hy).1
      simp at hl
      obtain rfl : k = l.length := by omega
      rw [List.getElem?_append_right (Nat.le_refl _)] at hy
      simp at hy
      rw [← hy, h1]
      exact hx
theorem add_p (b o n : Nat) : (⟨b, o, none⟩ : Addr).add n = ⟨b, o + n, none⟩ := by
  unfold Addr.add; split <;> simp_all
/-- A block, by one of its cells. -/
theorem block_of {W : World} {a : Addr} {v : Value} (h : W.cell? a = some v) : ∃ b o c e f, a = ⟨b, o, none⟩ ∧ W.heap[b]? = some (.cells c e f) ∧ ∀ n, W.cell? ⟨b, n, none⟩ = c[n]? := by
  obtain ⟨b, o, s⟩ := a
  unfold World.cell? at h
  rcases hb : W.heap[b]? with _ | o'
  · simp only [hb] at h; cases h
  · cases o' with
    | cells c e f =>
      cases s with
      | none => exact ⟨b, o, c, e, f, rfl, hb, fun n => by unfold World.cell?; simp only [hb]; rfl⟩
      | some s => simp [hb] at h
    | _ => simp only [hb] at h; cases h
set_option maxRecDepth 100000 in
theorem rowT_of {H : Type} {enc : TypeId × Value → H} {W : World} {fuel : Nat} {c : Value} {x : DataW H × List MemPlace} (h : DataW.trod enc Try.prog W 0 (fun _ => true) true fuel 49 [c] = some x) : ∃ r : Rw, c = r.v ∧ RowT (roW W) r.po r.l := by
  rcases DataW.trod_slice Try.underlying49 h with ⟨hc, _⟩ | ⟨a, len, cap, elems, rest, n, _, hc, _, _, hl, hm, hlen, hel, _, _⟩
  · obtain rfl : c = .slice none 0 0 := by simpa using hc
    exact ⟨⟨none, 0, []⟩, rfl, .inl rfl⟩
  · obtain rfl : c = .slice (some a) len cap := by simpa using hc
    obtain ⟨l, l1, l2⟩ := list_of (Q := fun k (x : Tch) => W.cell? ((a.add (k * 3)).add 0) = some (.int .u8 x.d) ∧ W.cell? ((a.add (k * 3)).add 1) = some (.int .i64 x.a) ∧ W.cell? ((a.add (k * 3)).add 2) = some (.int .u64 x.v)) len fun k hk => by
      have hk2 := hel k hk
      rw [List.getElem?_eq_getElem (by omega), Try.cell57, Option.bind_eq_some_iff] at hk2
      obtain ⟨cs, h1, h2⟩ := hk2
      obtain ⟨y0, y1, y2, n', _, hcl, f0, f1, f2⟩ := Go.Deep.trod_struct3 Try.underlying57 h2
      rw [Try.cell57] at hcl
      obtain ⟨c0, c1, c2, rfl⟩ : ∃ c0 c1 c2, cs = [c0, c1, c2] := by
        match cs, hcl with
        | [c0, c1, c2], _ => exact ⟨c0, c1, c2, rfl⟩
      obtain ⟨_, _, h3⟩ := World.cells?_some h1
      rw [show Try.prog.cellsOf 5 = 1 from Try.cell5] at f0
      rw [show Try.prog.cellsOf 3 = 1 from Try.cell3] at f1
      rw [show Try.prog.cellsOf 31 = 1 from Try.cell31] at f2
      obtain ⟨n0, e0, _⟩ := DataW.trod_int Try.underlying5 f0
      obtain ⟨n1, e1, _⟩ := DataW.trod_int Try.underlying3 f1
      obtain ⟨n2, e2, _⟩ := DataW.trod_int Try.underlying31 f2
      simp at e0 e1 e2
      subst e0; subst e1; subst e2
      exact ⟨⟨n0, n1, n2⟩, h3 0 (by omega), h3 1 (by omega), h3 2 (by omega)⟩
    refine ⟨⟨some a, cap, l⟩, by unfold Rw.v; rw [l1], ?_⟩
    by_cases hz : l = []
    · exact .inl hz
    · have hp : 0 < l.length := List.length_pos_iff.2 hz
      have h0 := (l2 0 _ (List.getElem?_eq_getElem hp)).1
      rw [Nat.zero_mul] at h0
      obtain ⟨b, o, cc, e, f, ha, hb, hcell⟩ := block_of (a := a) (by simpa [Addr.add] using h0)
      subst ha
      have hs : cc.size ≠ 0 := by
        rw [add_p, add_p, hcell] at h0
        have := (Array.getElem?_eq_some_iff.1 h0).1
        omega
      refine .inr ⟨b, o, cc, e, (0, cc.size), rfl, roW_of hb hs, fun j x hx => ?_⟩
      have := l2 j x hx
      simp only [add_p, hcell] at this
      exact this
set_option maxRecDepth 100000 in
theorem inRows_of {H : Type} {enc : TypeId × Value → H} {W : World} {base : Nat} {v : Value} {d : DataW H} {p : List MemPlace} (hv : Value.okWide Try.prog W .any base 44 v) (h : DataW.Trod enc Try.prog W 0 (fun _ => true) true 44 v d p) :
    ∃ (rs : List Rw) (a : Option Addr) (c : Nat), v = .slice a rs.length c ∧ InRows W a rs := by
  obtain ⟨a0, len0, cap0, rfl⟩ := okWide_slice Try.underlying44 hv
  obtain ⟨fuel, hf⟩ := h
  rcases DataW.trod_slice Try.underlying44 hf with ⟨hc, _⟩ | ⟨a, len, cap, elems, rest, n, _, hc, _, _, hl, hm, hlen, hel, _, _⟩
  · simp [Value.cells] at hc
    obtain ⟨rfl, rfl, rfl⟩ := hc
    exact ⟨[], none, 0, rfl, fun h => absurd rfl h, fun r h => by simp at h⟩
  · simp [Value.cells] at hc
    obtain ⟨rfl, rfl, rfl⟩ := hc
    obtain ⟨l, l1, l2⟩ := list_of (Q := fun k (r : Rw) => W.cell? (a.add k) = some r.v ∧ RowT (roW W) r.po r.l) len0 fun k hk => by
      have hk2 := hel k hk
      rw [List.getElem?_eq_getElem (by omega), Try.cell49, Nat.mul_one, Option.bind_eq_some_iff] at hk2
      obtain ⟨cs, h1, h2⟩ := hk2
      obtain ⟨_, hcl, h3⟩ := World.cells?_some h1
      obtain ⟨c0, rfl⟩ : ∃ c0, cs = [c0] := by
        match cs, hcl with
        | [c0], _ => exact ⟨c0, rfl⟩
      obtain ⟨r, rfl, hr⟩ := rowT_of h2
      have := h3 0 (by omega)
      exact ⟨r, by simpa [Addr.add] using this, hr⟩
    refine ⟨l, some a, cap0, by rw [l1], fun hz => ?_, fun r hr => ?_⟩
    · have hp : 0 < l.length := List.length_pos_iff.2 hz
      have h0 := (l2 0 _ (List.getElem?_eq_getElem hp)).1
      obtain ⟨b, o, cc, e, f, ha, hb, hcell⟩ := block_of (a := a) (by simpa [Addr.add] using h0)
      subst ha
      refine ⟨b, o, cc, e, f, rfl, hb, fun j x hx => ?_⟩
      have := (l2 j x hx).1
      rw [add_p, hcell] at this
      exact this
    · obtain ⟨j, hj, rfl⟩ := List.getElem_of_mem hr
      exact (l2 j _ (List.getElem?_eq_getElem hj)).2
set_option maxRecDepth 100000 in
theorem agentPlays_lifted (os : Os) (started : os.Started) (H : Type) (enc : TypeId × Value → H) :
    ReturnsInLeavingWide {} Try.checked os 5 .any (Rows.agentPlaysSpec.pre6 enc Try.prog Try.f5 Rows.agentPlaysRow.domain false) (Rows.agentPlaysSpec.post enc Try.prog Try.f5 false true false false) := by
  refine returnsInLeavingWide_of_change_sized (C := Try.checked) Try.own started Try.func5
    (ChangeSpec.witness6 (enc := enc) (C := Try.checked) false ⟨#[], #[.int .u8 0, .slice none 0 0, .slice none 0 0], []⟩ 8 (by kernel_rfl) (by kernel_rfl) (by kernel_rfl) (by kernel_rfl)) ?_
  intro W base args ds gs before hval0 hW _ _ _
  have hval : ∀ (j : Nat) t v, Try.f5.params[j]? = some t → args[j]? = some v → Value.okWide Try.prog W .any base t v := hval0
  have hW' := hW
  obtain ⟨p, q, hA0, hV, rfl, _, _⟩ := hW
  have hA : DataW.TrodAll enc Try.prog W 0 (fun _ => true) true Try.f5.params.toList args.toList ds p := hA0
  rw [Try.params5] at hA hval
  obtain ⟨v0, v1, v2, d0, d1, d2, p0, p1, p2, rfl, rfl, rfl, h0, h1, h2⟩ := trodAll_three hA
  obtain ⟨rfl, rfl⟩ := trodVars_none hV
  have h1k := h1
  have h2k := h2
  obtain ⟨a, rfl, rfl, rfl, wa⟩ := open_int Try.underlying5 (hval 0 5 v0 rfl rfl) h0
  obtain ⟨rs, pl, cl, rfl, hrs⟩ := inRows_of (hval 1 44 v1 rfl rfl) h1
  obtain ⟨ol, po, co, rfl, hol⟩ := inU8_of (hval 2 37 v2 rfl rfl) h2
  have ha : 0 ≤ a ∧ a < 256 := by
    have := wa
    simp [Lit.wf, IntKind.min, IntKind.max, IntKind.signed, IntKind.bits] at this
    omega
  obtain ⟨nw, rfl⟩ := Int.eq_ofNat_of_zero_le ha.1
  clear hA0 hval0
  try simp only [List.append_nil, List.nil_append] at hW'
  have hlt : ∀ x ∈ p1 ++ p2, x.block < W.heap.size := fun x hx => by simpa using hW'.lt x hx
  obtain ⟨M, last, o, w', t', r1, r2, r3, r4⟩ := plays_run W nw rs ol pl po cl co (by omega) hrs hol
  refine ⟨M, last, o, w', t', r1, r2, r3, r4.mono fun v hF => ?_⟩
  obtain ⟨rfl, hbelow⟩ : PostL W v w' := hF
  have ha1 : DataW.Trod enc Try.prog w' 0 (fun b => decide (b < W.heap.size)) true 44 (.slice pl rs.length cl) d1 p1 :=
    Below.trod Try.laidOut (by kernel_rfl) (of_decide_eq_true (by kernel_rfl)) h1k hbelow fun x hx => hlt x (List.mem_append_left _ hx)
  have ha2 : DataW.Trod enc Try.prog w' 0 (fun b => decide (b < W.heap.size)) true 37 (.slice po ol.length co) d2 p2 :=
    Below.trod Try.laidOut (by kernel_rfl) (of_decide_eq_true (by kernel_rfl)) h2k hbelow fun x hx => hlt x (List.mem_append_right _ hx)
  exact ⟨_, _, _, [], _, [], hW', trodAll_mk1 (shut_bool Try.underlying4 true), trodAll_mk3 (shut_int Try.underlying5 wa) ha1 ha2, rfl, hbelow.frame _, fun h => by cases h⟩
theorem agentPlays_holds : Rows.AgentPlaysSaid :=
  OpenClaim.holds_of_wide_leaving 5 Try.f5 rfl rfl rfl rfl rfl rfl rfl ⟨rfl, rfl, rfl, rfl, rfl⟩ rfl rfl rfl rfl rfl (by kernel_rfl) Try.func5 (by kernel_rfl)
    (of_decide_eq_true (by kernel_rfl)) (by unfold Func.isWrapper; first | (rw [if_pos (by decide +kernel)]; kernel_rfl) | (rw [if_neg (by decide +kernel)]; exact ⟨rfl, rfl⟩))
    (fun os started H enc _ => agentPlays_lifted os started H enc)
#print axioms agentPlays_holds
end Go.Proofs.Ytpgooljdodijlaa
