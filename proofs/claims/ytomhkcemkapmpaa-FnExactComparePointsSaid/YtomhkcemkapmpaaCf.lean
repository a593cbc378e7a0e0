/- For every input the law of ComparePoints returns true, and its arguments read as they did. -/
import Derived.Test.YtomhkcemkapmpaaRows
import Derived.Test.YtomhkcemkapmpaaSa
import Derived.Test.YtomhkcemkapmpaaCe
import Derived.ProofKit
namespace Go.Proofs.Ytomhkcemkapmpaa
open Go Go.ChangeShapes Go.WideShapes Go.ChangeAt Go.RowKit
set_option linter.unusedVariables false
set_option linter.unusedSimpArgs false

theorem Try.own : ownKnob Try.prog.godebug = none := by kernel_rfl
theorem Try.laidOut : laidOutB Try.prog = true := by kernel_rfl

def shPoint : Sh := .acons (.int .i64) (.acons (.int .i64) (.acons (.sl (.int .i64)) .anil))
theorem shPoint_ok : (shPoint.ok Try.prog).1 24 :=
  ⟨_, Try.underlying24, by kernel_rfl, _, _, rfl, rfl, by kernel_rfl, Try.underlying2,
    _, _, rfl, rfl, by kernel_rfl, Try.underlying2,
    _, _, rfl, rfl, by kernel_rfl, ⟨_, Try.underlying22, by kernel_rfl, by decide, Try.underlying2⟩, rfl⟩
theorem ints_of {y : D} (h : Has (.sl (.int .i64)) y) : ∃ xs : List Int, D.sim y (lst encI xs) ∧ xs.length ≤ maxLen := by
  cases y <;> try exact h.elim
  rename_i n f
  obtain ⟨hn, hf⟩ := h
  refine ⟨(List.range n).map fun i => (match f i with | .int _ m => m | _ => 0), ⟨by simp, fun i hi => ?_⟩, by simpa using hn⟩
  have := hf i hi
  cases hfi : f i <;> rw [hfi] at this <;> try exact this.elim
  obtain ⟨rfl, _⟩ := this
  simp [D.sim, List.getD_eq_getElem?_getD, hi, hfi]
theorem point_of {y : D} (h : Has shPoint y) : ∃ d p xs, D.sim y (ptD d p xs) ∧ xs.length ≤ maxLen := by
  cases y <;> try exact h.elim
  rename_i a r
  obtain ⟨h1, h⟩ := h
  cases a <;> try exact h1.elim
  obtain ⟨rfl, _⟩ := h1
  cases r <;> try exact h.elim
  rename_i b r
  obtain ⟨h2, h⟩ := h
  cases b <;> try exact h2.elim
  obtain ⟨rfl, _⟩ := h2
  cases r <;> try exact h.elim
  rename_i c r
  obtain ⟨h3, h4⟩ := h
  cases r <;> try exact h4.elim
  obtain ⟨xs, hs, hl⟩ := ints_of h3
  exact ⟨_, _, xs, ⟨⟨rfl, rfl⟩, ⟨rfl, rfl⟩, hs, trivial⟩, hl⟩
theorem point_agg (y : D) (h : Has shPoint y) : y.isAgg = true := by
  cases y <;> first | rfl | exact h.elim

set_option maxRecDepth 100000 in
theorem f_lifted (os : Os) (started : os.Started) (H : Type) (enc : TypeId × Value → H) :
    ReturnsInHanded {} Try.checked os 3 .any (Rows.fnExactComparePointsSpec.pre6 enc Try.prog Try.f3 Rows.fnExactComparePointsRow.domain false) (Rows.fnExactComparePointsSpec.post enc Try.prog Try.f3 false true false false) := by
  refine returnsInHanded_of_change (C := Try.checked) Try.own started (by kernel_rfl) Try.func3
    (ChangeSpec.witness6 (enc := enc) (C := Try.checked) false ⟨#[], #[.agg #[.int .i64 0, .int .i64 0, .slice none 0 0], .agg #[.int .i64 0, .int .i64 0, .slice none 0 0]], []⟩ 8 (by kernel_rfl) (by kernel_rfl) (by kernel_rfl) (by kernel_rfl)) ?_
  intro W base args ds gs before hval0 hW hcnd _
  have hval : ∀ (j : Nat) t v, Try.f3.params[j]? = some t → args[j]? = some v → Value.okWide Try.prog W .any base t v := hval0
  have hW' := hW
  obtain ⟨p, q, hA0, hV, rfl, hfz, hnd⟩ := hW
  have hA : DataW.TrodAll enc Try.prog W 0 (fun _ => true) true Try.f3.params.toList args.toList ds p := hA0
  rw [Try.params3] at hA hval
  obtain ⟨v0, v1, d0, d1, p0, p1, rfl, rfl, rfl, h0, h1⟩ := trodAll_two hA
  obtain ⟨rfl, rfl⟩ := trodVars_none hV
  have hlt0 : ∀ x ∈ p0, x.block < W.heap.size := fun x hx => by simpa using hW'.lt x (by simp [hx])
  have hlt1 : ∀ x ∈ p1, x.block < W.heap.size := fun x hx => by simpa using hW'.lt x (by simp [hx])
  obtain ⟨y0, b0, s0, r0⟩ := rep_struct shPoint_ok Try.underlying24 point_agg (hval 0 _ v0 rfl rfl) h0
  obtain ⟨y1, b1, s1, r1⟩ := rep_struct shPoint_ok Try.underlying24 point_agg (hval 1 _ v1 rfl rfl) h1
  obtain ⟨d, p, xs, e0, l0⟩ := point_of s0
  obtain ⟨e, q, ys, e1, l1⟩ := point_of s1
  have hJ : Stab (fun _ => True) := fun _ _ _ _ _ => trivial
  have hmax : maxLen ≤ 9223372036854775807 := by decide
  have hg := (g_law hJ d p e q xs ys (by omega) (by omega)).sim (x' := .acons y0 (.acons y1 .anil)) (y' := .bool true) ⟨e0, e1, trivial⟩ (D.sim_refl _)
  have hc := hg W [v0, v1] (b0 ++ (b1 ++ [])) trivial ⟨v0, [v1], b0, b1 ++ [], rfl, rfl, r0, v1, [], b1, [], rfl, rfl, r1, rfl, rfl⟩
  unfold CallRes at hc
  rw [callFunc_run Try.func3 rfl (by decide)] at hc
  refine hc.mono fun z W' ⟨v, he, b', hr, _, hb⟩ => ?_
  subst he
  have hv : v = .bool true := by
    obtain ⟨h2, _⟩ := (show RepB W' (.bool true) [v] b' from hr)
    simpa using h2
  subst hv
  refine ⟨_, rfl, _, _, _, [], p0 ++ p1, [], hW', ?_, ?_, rfl, hb.frame _, fun h => by cases h⟩
  · exact trodAll_mk1 (shut_bool Try.underlying4 true)
  · exact trodAll_mk2 (Below.trod Try.laidOut (by kernel_rfl) (of_decide_eq_true (by kernel_rfl)) h0 hb hlt0) (Below.trod Try.laidOut (by kernel_rfl) (of_decide_eq_true (by kernel_rfl)) h1 hb hlt1)

/- For all arguments the law of ComparePoints returns true and its arguments read as before; no condition beyond the statement's own. -/
theorem fnExactComparePoints_holds : Rows.FnExactComparePointsSaid :=
  OpenClaim.holds_of_wide 3 Try.f3 rfl rfl rfl rfl rfl rfl rfl ⟨rfl, rfl, rfl, rfl, rfl⟩ rfl rfl rfl rfl rfl (by kernel_rfl) Try.func3 (by kernel_rfl)
    (of_decide_eq_true (by kernel_rfl)) (by unfold Func.isWrapper; first | (rw [if_pos (by decide +kernel)]; kernel_rfl) | (rw [if_neg (by decide +kernel)]; exact ⟨rfl, rfl⟩))
    (fun os started H enc _ => f_lifted os started H enc)
end Go.Proofs.Ytomhkcemkapmpaa
