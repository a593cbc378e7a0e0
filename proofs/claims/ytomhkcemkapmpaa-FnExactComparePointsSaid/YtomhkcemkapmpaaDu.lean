/- A region that draws its order: the rule. For every world: no condition. -/
import Derived.Test.YtomhkcemkapmpaaDs
namespace Go.Proofs.Ytomhkcemkapmpaa
open Go Go.RowKit
set_option linter.unusedVariables false
set_option linter.unusedSimpArgs false

def SL (listed : Array Bool) : Nat → Bool := fun k => listed.getD k false
def cnt (listed : Array Bool) : Nat → Nat
  | 0 => 0
  | n + 1 => (if listed.getD n true = true then 0 else 1) + cnt listed n
theorem getD_tf {listed : Array Bool} {k : Nat} (h : k < listed.size) (d d' : Bool) : listed.getD k d = listed.getD k d' := by simp [Array.getD, h]
theorem SL_set {listed : Array Bool} {i : Nat} (h : i < listed.size) (k : Nat) : SL (listed.setIfInBounds i true) k = if k = i then true else SL listed k := by
  unfold SL
  by_cases hk : k = i
  · subst hk; simp [Array.getD, h]
  · rw [if_neg hk]; exact getD_set_ne false (Ne.symm hk)
theorem cnt_pos {listed : Array Bool} {i : Nat} (hi : listed.getD i true = false) : ∀ n, i < n → 1 ≤ cnt listed n
  | 0, h => by omega
  | n + 1, h => by
    unfold cnt
    by_cases e : n = i
    · subst e; rw [hi]; simp
    · have := cnt_pos hi n (by omega); omega

theorem cnt_set {listed : Array Bool} {i : Nat} (h : i < listed.size) (hi : listed.getD i true = false) : ∀ n, cnt (listed.setIfInBounds i true) n = if i < n then cnt listed n - 1 else cnt listed n
  | 0 => by simp [cnt]
  | n + 1 => by
    unfold cnt
    rw [cnt_set h hi n]
    by_cases e : n = i
    · subst e
      have : (listed.setIfInBounds n true).getD n true = true := by simp [Array.getD, h]
      rw [this, hi]; simp
    · rw [getD_set_ne true (Ne.symm e)]
      by_cases hlt : i < n
      · have := cnt_pos hi n hlt
        have h2 : i < n + 1 := by omega
        simp only [hlt, h2, if_true]
        split <;> omega
      · have h2 : ¬ i < n + 1 := by omega
        simp only [hlt, h2, if_false]

structure SegI (P : Program) (Z : Nat → Option D) (J : World → Prop) (N : Nat) (dd : Nat → Option Nat) (ops : Array Oper) (zs : List (List Nat × Oper)) (K : St → Prop) (w0 : Base) (listed : Array Bool) (a : Act) (w : World)
    (pre l1 l2 : List (List Nat × Oper)) (tr : List (SV × Option Ob)) (E : Nat → SV) (O : Nat → Option Ob) (nx0 : Nat) (st' : St) (g : Gh) : Prop where
  hz : zs = pre ++ (l1 ++ l2)
  tf : TF P Z J N dd pre.length nx0 pre.length l1 tr E O
  tl : tr.length = l1.length
  eE : ∀ t, Imp (endE l1 tr E t) (getE st'.env t)
  eO : getO st'.obs = endO pre.length nx0 pre.length tr O
  stop : Stop P Z J N dd pre.length nx0 (pre.length + l1.length) l2 st' K
  lsz : listed.size = ops.size
  lo : ∀ k, k < pre.length → SL listed k = true
  hi : ∀ k, pre.length + l1.length ≤ k → SL listed k = false
  down : Down ops.toList (fun k => SL listed k = true)
  nx1 : 1 ≤ nx0
  O0 : ∀ j, nx0 ≤ j → O j = none
  asz : a.tmps.size = N
  dfr : a.defers = []
  W : WRel J w0 (obD (SL listed) pre.length nx0 tr O) g w
  env : ∀ t, SVok w g (obD (SL listed) pre.length nx0 tr O) (dynE (SL listed) pre.length l1 tr E t) (a.tmps.getD t undef)
  unB : ∀ j, nx0 ≤ j → SL listed (pre.length + (j - nx0)) = false → g.B j = []

section
variable {P : Program} {Z : Nat → Option D} {J : World → Prop} {N : Nat} {dd : Nat → Option Nat} {ops : Array Oper} {zs : List (List Nat × Oper)} {K : St → Prop} {w0 : Base} {listed : Array Bool} {a : Act} {w : World}
  {pre l1 l2 : List (List Nat × Oper)} {tr : List (SV × Option Ob)} {E : Nat → SV} {O : Nat → Option Ob} {nx0 : Nat} {st' : St} {g : Gh}

theorem SegI.atEnd (h : SegI P Z J N dd ops zs K w0 listed a w pre l1 l2 tr E O nx0 st' g) (hall : ∀ k, k < pre.length + l1.length → SL listed k = true) : Rel J w0 N { st' with nx := nx0 + l1.length } g a w := by
  have hob : getO st'.obs = obD (SL listed) pre.length nx0 tr O := by
    rw [h.eO]; funext j
    rw [endO_at _ _ _ _ _ _ (Nat.le_refl _)]
    simp only [Nat.sub_self, Nat.add_zero, obD]
    by_cases hj : j < nx0
    · rw [if_neg (by omega), if_pos hj]
    · rw [if_neg hj, h.O0 j (by omega)]
      by_cases hlt : j < nx0 + tr.length
      · rw [if_pos (hall _ (by rw [← h.tl]; omega))]
        cases hn : NBt tr (j - nx0) with
        | none => simp
        | some o => simp [hlt]; omega
      · rw [if_neg (by omega), if_neg (by rw [h.hi _ (by rw [← h.tl]; omega)]; simp)]
  refine ⟨h.asz, h.dfr, by rw [hob]; exact h.W, fun t => ?_, fun i hi => ?_, by have := h.nx1; show 1 ≤ nx0 + l1.length; omega⟩
  · rw [hob]
    refine h.eE t _ _ _ _ ?_
    have := dynE_at (SL listed) (pre.length + l1.length) t l1 tr pre.length E E h.tl rfl (fun k p hk _ => by
      have := (List.getElem?_eq_some_iff.1 hk).1
      exact ⟨fun hlt => hall _ hlt, fun hge => by omega⟩)
    rw [show pre.length + l1.length - pre.length = l1.length by omega, List.take_length, ← h.tl, List.take_length] at this
    rw [← this]
    exact h.env t
  · have hi' : nx0 + l1.length ≤ i := hi
    have hs := h.hi (pre.length + (i - nx0)) (by omega)
    refine ⟨?_, h.unB i (by omega) hs⟩
    show getO st'.obs i = none
    rw [hob]; simp only [obD]; rw [if_neg (by omega), if_neg (by rw [hs]; simp)]

theorem segI_start {st : St} (hR : Rel J w0 N st g a w) (h : evDr P Z J N dd pre.length st.nx pre.length l2 st K) (hz : zs = pre ++ l2) (lsz : listed.size = ops.size)
    (hl : ∀ k, SL listed k = true ↔ k < pre.length) (down : Down ops.toList (fun k => SL listed k = true)) :
    ∃ l1 l2 tr E O nx0 st', SegI P Z J N dd ops zs K w0 listed a w pre l1 l2 tr E O nx0 st' g := by
  obtain ⟨l1, l2', tr, st', a1, a2, a3, a4, a5, a6⟩ := trace_of l2 pre.length st (getE st.env) h (fun _ _ _ _ _ h => h)
  have hno : ∀ k, pre.length ≤ k → SL listed k = false := fun k hk => by
    cases hs : SL listed k
    · rfl
    · have := (hl k).1 hs; omega
  have hob : obD (SL listed) pre.length st.nx tr (getO st.obs) = getO st.obs := by
    funext j; simp only [obD]
    by_cases hj : j < st.nx
    · rw [if_pos hj]
    · rw [if_neg hj, if_neg (by rw [hno _ (by omega)]; simp)]
      exact ((hR.un j (by omega)).1).symm
  refine ⟨l1, l2', tr, getE st.env, getO st.obs, st.nx, st', ⟨by rw [hz, a1], a3, a2, a4, a5, a6, lsz, fun k hk => (hl k).2 hk, fun k hk => hno k (by omega), down, hR.pos, fun j hj => (hR.un j hj).1, hR.size, hR.defers, by rw [hob]; exact hR.W, fun t => ?_, fun j hj _ => (hR.un j hj).2⟩⟩
  rw [hob, dynE_keep _ _ _ _ _ _ (fun k p _ _ => hno _ (by omega))]
  exact hR.env t

theorem clash_of {T : List (List Nat)} (hok : drawOK ops T = true) {i j : Nat} {x y : Oper} (hij : i < j) (hx : ops[i]? = some x) (hy : ops[j]? = some y) (hc : isEff x.op = true ∨ isEff y.op = true ∨ x.apart ops y = false) : i ∈ T.getD j [] := by
  unfold drawOK at hok
  rw [List.all_eq_true] at hok
  have h1 := hok j (List.mem_range.2 (Array.getElem?_eq_some_iff.1 hy).1)
  rw [hy] at h1
  simp only [Bool.and_eq_true] at h1
  have h2 := List.all_eq_true.1 h1.2 i (List.mem_range.2 hij)
  rw [hx] at h2
  simp only [Bool.or_eq_true, Bool.and_eq_true, Bool.not_eq_true', List.contains_iff_mem] at h2
  rcases h2 with ⟨⟨h3, h4⟩, h5⟩ | h2
  · rcases hc with h | h | h
    · rw [h3] at h; cases h
    · rw [h4] at h; cases h
    · rw [h5] at h; cases h
  · exact h2
theorem back_of {T : List (List Nat)} (hok : drawOK ops T = true) {j : Nat} {y : Oper} (hy : ops[j]? = some y) : ∀ k ∈ dirs y, k < j := by
  unfold drawOK at hok
  rw [List.all_eq_true] at hok
  have h1 := hok j (List.mem_range.2 (Array.getElem?_eq_some_iff.1 hy).1)
  rw [hy] at h1
  simp only [Bool.and_eq_true] at h1
  intro k hk
  simpa using List.all_eq_true.1 h1.1 k hk
theorem mem_dirs {o : Oper} {k : Nat} : k ∈ dirs o ↔ ∃ e ∈ o.after, Region.binds .any e = true ∧ e.on = k := by
  simp only [dirs, List.mem_map, List.mem_filter, Array.mem_toList_iff, and_assoc]

/-- What every executed or ready operation has behind it. -/
theorem anc_done {S : Nat → Prop} (hS : Down ops.toList S) {i : Nat} {o : Oper} (ho : ops[i]? = some o) (hd : ∀ k ∈ dirs o, S k) : ∀ k ∈ (ancT [] ops.toList).getD i [], S k :=
  ancT_ok hS ops.toList [] [] rfl rfl (fun i o h => by simp at h) i o (by simpa using ho) hd
end
end Go.Proofs.Ytomhkcemkapmpaa
