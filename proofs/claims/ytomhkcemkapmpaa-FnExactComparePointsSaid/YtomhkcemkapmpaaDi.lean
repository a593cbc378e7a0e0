/- The state of a frame, the steps that change memory of the frame's own. For every world: no condition. -/
import Derived.Test.YtomhkcemkapmpaaDh
namespace Go.Proofs.Ytomhkcemkapmpaa
open Go Go.RowKit
set_option linter.unusedVariables false
set_option linter.unusedSimpArgs false

structure St where
  env : List (Nat × SV)
  obs : List (Nat × Ob)
  nx : Nat

def getE : List (Nat × SV) → Nat → SV
  | [], _ => .junk
  | (k, s) :: r, n => if k = n then s else getE r n
def getO : List (Nat × Ob) → Nat → Option Ob
  | [], _ => none
  | (k, o) :: r, n => if k = n then some o else getO r n
def constSV : Value → SV
  | .int k n => .d true [] (.int k n)
  | .bool b => .d true [] (.bool b)
  | .string s => .d true [] (.str s)
  | .slice none 0 0 => .d true [] .nils
  | .nilIface => .d true [] (.err false)
  | _ => .junk
def St.opd (st : St) : Operand → SV
  | .tmp t => getE st.env t
  | .const v => constSV v
  | .func f => .cl f .cnil
  | .global _ => .junk
def St.put (st : St) (d : Option Nat) (s : SV) : St := match d with | some t => { st with env := (t, s) :: st.env } | none => st

structure Rel (J : World → Prop) (w0 : Base) (N : Nat) (st : St) (g : Gh) (a : Act) (w : World) : Prop where
  size : a.tmps.size = N
  defers : a.defers = []
  W : WRel J w0 (getO st.obs) g w
  env : ∀ t, SVok w g (getO st.obs) (getE st.env t) (a.tmps.getD t undef)
  un : ∀ i, st.nx ≤ i → getO st.obs i = none ∧ g.B i = []
  pos : 1 ≤ st.nx

section
variable {P : Program} {J : World → Prop} {w0 : Base} {w w' : World} {g g' : Gh} {N : Nat} {st : St} {a : Act}

theorem const_ok (ob : Nat → Option Ob) (v : Value) : SVok w g ob (constSV v) v := by
  unfold constSV
  split
  · exact dok_int ..
  · exact dok_bool ..
  · exact dok_str ..
  · exact ⟨[], (repV_one rfl).2 ⟨rfl, rfl⟩, Cov.nil _ _ _, by simp⟩
  · exact ⟨[], (repV_one rfl).2 ⟨rfl, by simp⟩, Cov.nil _ _ _, by simp⟩
  · trivial

theorem Rel.opd (h : Rel J w0 N st g a w) (x : Operand) : SVok w g (getO st.obs) (st.opd x) (a.eval x) := by
  cases x with
  | tmp t => exact h.env t
  | const v => exact const_ok _ v
  | func f => exact ⟨[], rfl, rfl⟩
  | global g => trivial

theorem getD_set (tmps : Array Value) (d t : Nat) (v : Value) (hd : d < tmps.size) : (tmps.setIfInBounds d v).getD t undef = if d = t then v else tmps.getD t undef := by
  by_cases h : d = t
  · subst h; simp [Array.getD, hd]
  · unfold Array.getD
    simp only [Array.size_setIfInBounds, h, if_false]
    split
    · exact Array.getElem_setIfInBounds_ne _ h
    · rfl

/-- Behind a step: the frame's new slot, a new object or none, a new number. -/
def St.left (st : St) (d : Option Nat) (r : SV) (nob : Option Ob) : St :=
  { env := (match d with | some t => (t, r) :: st.env | none => st.env), obs := (match nob with | some o => (st.nx, o) :: st.obs | none => st.obs), nx := st.nx + 1 }

theorem getO_left (st : St) (d : Option Nat) (r : SV) (nob : Option Ob) (hu : getO st.obs st.nx = none) : getO (st.left d r nob).obs = upd (getO st.obs) st.nx nob := by
  funext i
  cases nob with
  | none => rw [upd_none hu]; rfl
  | some o => simp only [St.left, getO, upd]; by_cases h : st.nx = i
              · simp [h]
              · simp [h, Ne.symm h]

theorem Rel.left (h : Rel J w0 N st g a w) {o : Oper} {r : SV} {nob : Option Ob} {v : Value} {w' : World} (hd : ∀ t, o.dst = some t → t < N) (hl : Left J w0 st.nx g (getO st.obs) w r nob v w') :
    ∃ g', Rel J w0 N (st.left o.dst r nob) g' (a.put o.dst v) w' := by
  obtain ⟨g', hE, hW, hs⟩ := hl
  have hu := (h.un st.nx (Nat.le_refl _)).1
  have h0 := (h.un st.nx (Nat.le_refl _)).2
  have ho := getO_left st o.dst r nob hu
  refine ⟨g', ?_, ?_, by rw [ho]; exact hW, fun t => ?_, fun i hi => ?_, Nat.le_trans h.pos (Nat.le_succ _)⟩
  · cases hdst : o.dst <;> simp [Act.put, h.size]
  · cases hdst : o.dst <;> simp [Act.put, h.defers]
  · rw [ho]
    have old : SVok w' g' (upd (getO st.obs) st.nx nob) (getE st.env t) (a.tmps.getD t undef) := SVok.ext hE hu h0 _ (h.env t)
    cases hdst : o.dst with
    | none => exact old
    | some d =>
      simp only [Act.put, St.left, getE]
      rw [getD_set _ _ _ _ (by rw [h.size]; exact hd d hdst)]
      by_cases e : d = t
      · simp only [e, if_true]; exact hs
      · simp only [e, if_false]; exact old
  · rw [ho]
    have hi' : st.nx + 1 ≤ i := hi
    refine ⟨?_, ?_⟩
    · simp only [upd]; rw [if_neg (by omega)]; exact (h.un i (by omega)).1
    · rw [hE.B i (by omega)]; exact (h.un i (by omega)).2
end
end Go.Proofs.Ytomhkcemkapmpaa
