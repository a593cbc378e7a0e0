/- A frame's code from state to state, and what a function gives. For every world: no condition. -/
import Derived.Test.YtomhkcemkapmpaaDy
namespace Go.Proofs.Ytomhkcemkapmpaa
open Go Go.RowKit
set_option linter.unusedVariables false
set_option linter.unusedSimpArgs false

def St.fixB (st : St) (t : Nat) (b : Bool) : St := { st with env := (t, .d true [] (.bool b)) :: st.env }
def evOps (P : Program) (Z : Nat → Option D) (J : World → Prop) (N : Nat) (dsts : Nat → Option Nat) : List Oper → St → (St → Prop) → Prop
  | [], st, K => K st
  | o :: r, st, K =>
    match o.guard with
    | none => evStep P Z J N o st fun st' => evOps P Z J N dsts r st' K
    | some (j, want) =>
      match dsts j with
      | some t => vBool (getE st.env t) fun b => onBool b fun b' =>
          if b' = want then evStep P Z J N o (st.fixB t b') fun st' => evOps P Z J N dsts r st' K
          else dstOK N o.dst ∧ evOps P Z J N dsts r ((st.fixB t b').put o.dst .junk) K
      | none => False

section
variable {P : Program} {Z : Nat → Option D} {J : World → Prop} {w0 : Base} {w w' : World} {g g' : Gh} {N : Nat} {st : St} {a : Act}

theorem Rel.fixB (h : Rel J w0 N st g a w) {t : Nat} {b : Bool} (hv : a.tmps.getD t undef = .bool b) : Rel J w0 N (st.fixB t b) g a w := by
  refine ⟨h.size, h.defers, h.W, fun u => ?_, h.un, h.pos⟩
  simp only [St.fixB, getE]
  by_cases hu : t = u
  · subst hu
    simp only [if_true]
    rw [hv]
    exact dok_bool ..
  · simp only [hu, if_false]
    exact h.env u
theorem Rel.putJunk (h : Rel J w0 N st g a w) {d : Option Nat} (hd : dstOK N d) (v : Value) : Rel J w0 N (st.put d .junk) g (a.put d v) w := by
  cases d with
  | none => exact h
  | some d =>
    refine ⟨by simp [Act.put, h.size], h.defers, h.W, fun u => ?_, h.un, h.pos⟩
    simp only [St.put, getE, Act.put]
    rw [getD_set _ _ _ _ (by rw [h.size]; exact hd)]
    by_cases hu : d = u
    · simp only [hu, if_true]; trivial
    · simp only [hu, if_false]; exact h.env u

theorem yielded_of {ops : Array Oper} {tmps : Array Value} {j t : Nat} {b : Bool} (hd : (ops[j]?).bind (·.dst) = some t) (hv : tmps.getD t undef = .bool b) : yielded ops tmps j = some b := by
  unfold yielded
  rw [hd]
  have : tmps[t]? = some (.bool b) := by
    unfold Array.getD at hv
    split at hv
    · rename_i h; rw [Array.getElem?_eq_getElem h]; congr 1
    · cases hv
  simp [this]

theorem evOps_sound (hZ : ZOK P Z) (hJ : Stab J) (hj0 : J w0.toWorld) {ops : Array Oper} {Q : Exit → Act → World → Prop} {K : St → Prop} (hQ : ∀ st' g' a' w', K st' → Rel J w0 N st' g' a' w' → Q .normal a' w') :
    ∀ (l : List Oper) (st : St) (g : Gh) (a : Act) (w : World), evOps P Z J N (fun j => (ops[j]?).bind (·.dst)) l st K → Rel J w0 N st g a w → wpList P ops Q l a w
  | [], st, g, a, w, h, hR => hQ st g a w h hR
  | o :: l, st, g, a, w, h, hR => by
    unfold evOps at h
    unfold wpList
    split at h
    · rename_i hg
      rw [if_pos (by simp [Region.wanted, hg])]
      exact .inl (evStep_sound hZ hJ hj0 hR h _ _ fun st' g' v w' hk hR' => evOps_sound hZ hJ hj0 hQ l st' g' _ w' hk hR')
    · rename_i j want hg
      split at h
      · rename_i t ht
        obtain ⟨b, hb, h⟩ := vBool_sound h (hR.env t)
        have h := onBool_sound h
        have hy := yielded_of ht hb
        have hR' := hR.fixB hb
        split at h
        · rename_i hw
          rw [if_pos (by simp [Region.wanted, hg, hy, hw])]
          exact .inl (evStep_sound hZ hJ hj0 hR' h _ _ fun st' g' v w' hk hR'' => evOps_sound hZ hJ hj0 hQ l st' g' _ w' hk hR'')
        · rename_i hw
          rw [if_neg (by simp [Region.wanted, hg, hy, hw])]
          exact evOps_sound hZ hJ hj0 hQ l _ g _ w h.2 (hR'.putJunk h.1 undef)
      · exact h.elim
end

/-! ### Code -/
def St.fixC (st : St) (c : Operand) (b : Bool) : St := match c with | .tmp t => st.fixB t b | _ => st
inductive DEx where
  | normal
  | exit (id : Nat)
  | ret

/-- A loop's demand: states by an index, with a measure. -/
def LoopVC (body : St → (DEx → St → Prop) → Prop) (st : St) (K : DEx → St → Prop) : Prop :=
  ∃ (n0 : Nat) (ι : Type) (S : ι → St) (m : ι → Nat), (∃ i, WkOK n0 st (S i)) ∧ ∀ i, body (S i) fun e st' => match e with
    | .normal => ∃ j, WkOK n0 st' (S j) ∧ m j < m i
    | e => K e st'
/-- A region that draws its order. -/
def DrawVC (P : Program) (Z : Nat → Option D) (J : World → Prop) (N : Nat) (ops : Array Oper) (st : St) (K : St → Prop) : Prop :=
  ∀ (w0 : Base) g a w, J w0.toWorld → Rel J w0 N st g a w → ∀ (id : Nat) (Q : Exit → Act → World → Prop), (∀ st' g' a' w', K st' → Rel J w0 N st' g' a' w' → Q .normal a' w') → (Code.region id ops true).wp P Q a w

def evC (P : Program) (Z : Nat → Option D) (J : World → Prop) (N : Nat) : Code → St → (DEx → St → Prop) → Prop
  | .skip, st, K => K .normal st
  | .region _ ops false, st, K => evOps P Z J N (fun j => (ops[j]?).bind (·.dst)) ops.toList st (K .normal)
  | .region _ ops true, st, K => DrawVC P Z J N ops st (K .normal)
  | .seq x y, st, K => evC P Z J N x st fun e st' => match e with | .normal => evC P Z J N y st' K | e => K e st'
  | .cond c x y, st, K => vBool (st.opd c) fun b => onBool b fun b' =>
      if b' then evC P Z J N x (st.fixC c b') K else evC P Z J N y (st.fixC c b') K
  | .block id x, st, K => evC P Z J N x st fun e st' => match e with | .exit j => if j = id then K .normal st' else K (.exit j) st' | e => K e st'
  | .loop x, st, K => LoopVC (evC P Z J N x) st K
  | .exit id, st, K => K (.exit id) st
  | .ret, st, K => K .ret st
  | _, _, _ => False

/-- What the machine's end stands for. -/
def lift (J : World → Prop) (w0 : Base) (N : Nat) (K : DEx → St → Prop) : Exit → Act → World → Prop
  | .normal, a, w => ∃ st g, K .normal st ∧ Rel J w0 N st g a w
  | .exit id, a, w => ∃ st g, K (.exit id) st ∧ Rel J w0 N st g a w
  | .ret, a, w => ∃ st g, K .ret st ∧ Rel J w0 N st g a w
  | _, _, _ => False

theorem evC_sound {P : Program} {Z : Nat → Option D} {J : World → Prop} {w0 : Base} {N : Nat} (hZ : ZOK P Z) (hJ : Stab J) (hj0 : J w0.toWorld) :
    ∀ (c : Code) (st : St) (g : Gh) (a : Act) (w : World) (K : DEx → St → Prop), evC P Z J N c st K → Rel J w0 N st g a w → c.wp P (lift J w0 N K) a w
  | .skip, st, g, a, w, K, h, hR => wp_skip ⟨st, g, h, hR⟩
  | .region id ops false, st, g, a, w, K, h, hR => wp_region_list (evOps_sound hZ hJ hj0 (fun st' g' a' w' hk hR' => ⟨st', g', hk, hR'⟩) ops.toList st g a w h hR)
  | .region id ops true, st, g, a, w, K, h, hR => h w0 g a w hj0 hR id _ fun st' g' a' w' hk hR' => ⟨st', g', hk, hR'⟩
  | .seq x y, st, g, a, w, K, h, hR => by
    refine wp_seq (Go.wp_mono (evC_sound hZ hJ hj0 x st g a w _ h hR) fun e a' w' hl => ?_)
    cases e with
    | normal => obtain ⟨st', g', hk, hR'⟩ := hl; exact evC_sound hZ hJ hj0 y st' g' a' w' K hk hR'
    | exit id => exact hl
    | ret => exact hl
    | goto l => exact hl
    | panic c => exact hl
    | outgrown => exact hl
  | .cond c x y, st, g, a, w, K, h, hR => by
    have hc := hR.opd c
    obtain ⟨b, hb, h⟩ := vBool_sound h hc
    have h := onBool_sound h
    have hR' : Rel J w0 N (st.fixC c b) g a w := by
      unfold St.fixC
      split
      · exact hR.fixB hb
      · exact hR
    refine wp_cond hb ?_
    cases b
    · exact evC_sound hZ hJ hj0 y _ g a w K h hR'
    · exact evC_sound hZ hJ hj0 x _ g a w K h hR'
  | .block id x, st, g, a, w, K, h, hR => by
    refine wp_block (Go.wp_mono (evC_sound hZ hJ hj0 x st g a w _ h hR) fun e a' w' hl => ?_)
    cases e with
    | normal => exact hl
    | exit j =>
      obtain ⟨st', g', hk, hR'⟩ := hl
      simp only [Exit.inBlock]
      simp only at hk
      split
      · rename_i e; rw [if_pos e] at hk; exact ⟨st', g', hk, hR'⟩
      · rename_i e; rw [if_neg e] at hk; exact ⟨st', g', hk, hR'⟩
    | ret => exact hl
    | goto l => exact hl
    | panic c => exact hl
    | outgrown => exact hl
  | .loop x, st, g, a, w, K, h, hR => by
    obtain ⟨n0, ι, S, m, ⟨i0, hi0⟩, hround⟩ := h
    obtain ⟨g0, hR0⟩ := hi0.wk _ _ _ _ _ _ hR
    refine wp_loop_ghost (fun n a w => ∃ i g, m i = n ∧ Rel J w0 N (S i) g a w) (m i0) ⟨i0, g0, rfl, hR0⟩ ?_
    rintro n a w ⟨i, g, rfl, hR⟩
    refine Go.wp_mono (evC_sound hZ hJ hj0 x (S i) g a w _ (hround i) hR) fun e a' w' hl => ?_
    cases e with
    | normal =>
      obtain ⟨st', g', ⟨j, hj, hlt⟩, hR'⟩ := hl
      obtain ⟨g2, hR2⟩ := hj.wk _ _ _ _ _ _ hR'
      exact ⟨m j, hlt, j, g2, rfl, hR2⟩
    | exit id => exact hl
    | ret => exact hl
    | goto l => exact hl
    | panic c => exact hl
    | outgrown => exact hl
  | .exit id, st, g, a, w, K, h, hR => wp_exit ⟨st, g, h, hR⟩
  | .ret, st, g, a, w, K, h, hR => wp_ret ⟨st, g, h, hR⟩
  | .rangeFunc .., _, _, _, _, _, h, _ => h.elim
  | .scope .., _, _, _, _, _, h, _ => h.elim
  | .label .., _, _, _, _, _, h, _ => h.elim
  | .goto .., _, _, _, _, _, h, _ => h.elim
  | .refuse .., _, _, _, _, _, h, _ => h.elim
end Go.Proofs.Ytomhkcemkapmpaa
