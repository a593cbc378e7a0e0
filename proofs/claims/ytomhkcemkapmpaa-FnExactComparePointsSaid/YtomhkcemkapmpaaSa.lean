/- What a statement's reading of an argument tells: the argument stands for data of its shape. For every world: no condition. -/
import Derived.Test.YtomhkcemkapmpaaRows
import Derived.Test.YtomhkcemkapmpaaDa
import Derived.ProofKit
namespace Go.Proofs.Ytomhkcemkapmpaa
open Go Go.RowKit Go.ChangeShapes Go.WideShapes
set_option linter.unusedVariables false
set_option linter.unusedSimpArgs false

inductive Sh where
  | int (k : IntKind)
  | bool
  | str
  | sl (e : Sh)
  | anil
  | acons (x r : Sh)
def Sh.sz : Sh → Nat
  | .anil => 0
  | .acons x r => x.sz + r.sz
  | _ => 1
def Sh.ok (P : Program) : Sh → (TypeId → Prop) × (List Field → Nat → Prop)
  | .int k => (fun t => P.underlying t = some (.int k), fun _ _ => False)
  | .bool => (fun t => P.underlying t = some .bool, fun _ _ => False)
  | .str => (fun t => P.underlying t = some .string, fun _ _ => False)
  | .sl e => (fun t => ∃ u, P.underlying t = some (.slice u) ∧ P.cellsOf u = e.sz ∧ 0 < e.sz ∧ (e.ok P).1 u, fun _ _ => False)
  | .anil => (fun t => P.underlying t = some (.struct #[]) ∧ P.cellsOf t = 0, fun fs _ => fs = [])
  | .acons x r =>
    (fun t => ∃ fs, P.underlying t = some (.struct fs) ∧ P.cellsOf t = x.sz + r.sz ∧ ∃ f l, fs.toList = f :: l ∧ f.offset = 0 ∧ P.cellsOf f.type = x.sz ∧ (x.ok P).1 f.type ∧ (r.ok P).2 l x.sz,
     fun fs o => ∃ f l, fs = f :: l ∧ f.offset = o ∧ P.cellsOf f.type = x.sz ∧ (x.ok P).1 f.type ∧ (r.ok P).2 l (o + x.sz))
def Has : Sh → D → Prop
  | .int k, .int k' n => k' = k ∧ (Lit.int k n).wf = true
  | .bool, .bool _ => True
  | .str, .str s => s.size ≤ maxLen
  | .sl e, .list n f => n ≤ maxLen ∧ ∀ i, i < n → Has e (f i)
  | .anil, .anil => True
  | .acons x r, .acons y z => Has x y ∧ Has r z
  | _, _ => False

section
variable {H : Type} {enc : TypeId × Value → H} {P : Program} {w : World} {base : Nat} {spare : Nat → Bool} {held : Bool}

theorem rep_of_trod : ∀ s : Sh,
    (∀ t fuel cs x, (s.ok P).1 t → DataW.trod enc P w base spare held fuel t cs = some x → ∃ y bs, Has s y ∧ RepB w y cs bs) ∧
    (∀ (fs : List Field) (o n : Nat) (cs : List Value) (xs : List (DataW H × List MemPlace)), (s.ok P).2 fs o → cs.length = o + s.sz → xs.length = fs.length →
      (∀ (i : Nat) (f : Field), fs[i]? = some f → DataW.trod enc P w base spare held n f.type ((cs.drop f.offset).take (P.cellsOf f.type)) = xs[i]?) → ∃ y bs, Has s y ∧ RepB w y (cs.drop o) bs) := by
  intro s
  induction s with
  | int k =>
    refine ⟨fun t fuel cs x ht h => ?_, fun _ _ _ _ _ h => h.elim⟩
    obtain ⟨n, rfl, _, hw⟩ := DataW.trod_int ht h
    exact ⟨.int k n, [], ⟨rfl, hw⟩, rfl, rfl⟩
  | bool =>
    refine ⟨fun t fuel cs x ht h => ?_, fun _ _ _ _ _ h => h.elim⟩
    obtain ⟨b, rfl, _⟩ := DataW.trod_bool ht h
    exact ⟨.bool b, [], trivial, rfl, rfl⟩
  | str =>
    refine ⟨fun t fuel cs x ht h => ?_, fun _ _ _ _ _ h => h.elim⟩
    obtain ⟨b, rfl, _, hl⟩ := DataW.trod_string ht h
    exact ⟨.str b, [], hl, rfl, rfl⟩
  | sl e ih =>
    refine ⟨fun t fuel cs x ht h => ?_, fun _ _ _ _ _ h => h.elim⟩
    obtain ⟨u, hu, hc, h0, hok⟩ := ht
    rcases DataW.trod_slice hu h with ⟨rfl, _⟩ | ⟨a, len, cap, elems, rest, n, _, rfl, _, hb, hl, hm, hlen, hel, _, _⟩
    · exact ⟨.list 0 (fun _ => .anil), [], ⟨Nat.zero_le _, fun i hi => by omega⟩, none, 0, rfl, Nat.le_refl _, .inl ⟨rfl, rfl⟩⟩
    · have each : ∀ i, ∃ y bs ci, i < len → Has e y ∧ RepB w y ci bs ∧ ci.length = e.sz ∧ CellsAt w a (i * e.sz) ci := by
        intro i
        by_cases hi : i < len
        · have h1 := hel i hi
          rw [List.getElem?_eq_getElem (by omega)] at h1
          obtain ⟨ci, hci, hd⟩ := Option.bind_eq_some_iff.1 h1
          obtain ⟨y, bs, h2, h3⟩ := ih.1 u n ci _ hok hd
          obtain ⟨_, h4, h5⟩ := World.cells?_some hci
          rw [hc] at h4 h5
          refine ⟨y, bs, ci, fun _ => ⟨h2, h3, h4, fun j v hj => ?_⟩⟩
          have hjl : j < e.sz := by rw [← h4]; exact (List.getElem?_eq_some_iff.1 hj).1
          have := h5 j hjl
          rw [add_add] at this
          rw [this, hj]
        · exact ⟨.anil, [], [], fun h => absurd h hi⟩
      obtain ⟨f, hf⟩ := Classical.axiomOfChoice each
      obtain ⟨bf, hf⟩ := Classical.axiomOfChoice hf
      obtain ⟨cf, hf⟩ := Classical.axiomOfChoice hf
      by_cases hz : len = 0
      · subst hz
        exact ⟨.list 0 f, [], ⟨Nat.zero_le _, fun i hi => by omega⟩, some a, cap, rfl, hl, .inl ⟨rfl, rfl⟩⟩
      · exact ⟨.list len f, _, ⟨by omega, fun i hi => (hf i hi).1⟩, some a, cap, rfl, hl, .inr ⟨by omega, a, e.sz, bf, rfl, h0, rfl, fun i hi => ⟨cf i, (hf i hi).2.1, (hf i hi).2.2.1, (hf i hi).2.2.2⟩⟩⟩
  | anil =>
    refine ⟨fun t fuel cs x ht h => ?_, fun fs o n cs xs hf hl _ _ => ?_⟩
    · obtain ⟨xs, n, _, _, hl, _, _⟩ := DataW.trod_struct ht.1 h
      rw [ht.2] at hl
      exact ⟨.anil, [], trivial, List.length_eq_zero_iff.1 hl, rfl⟩
    · exact ⟨.anil, [], trivial, List.drop_eq_nil_iff.2 (by simp [Sh.sz] at hl; omega), rfl⟩
  | acons sx sr ih1 ih2 =>
    have key : ∀ (f : Field) (l : List Field) (o n : Nat) (cs : List Value) (xs : List (DataW H × List MemPlace)), f.offset = o → P.cellsOf f.type = sx.sz → (sx.ok P).1 f.type → (sr.ok P).2 l (o + sx.sz) →
        cs.length = o + (sx.sz + sr.sz) → xs.length = (f :: l).length →
        (∀ (i : Nat) (q : Field), (f :: l)[i]? = some q → DataW.trod enc P w base spare held n q.type ((cs.drop q.offset).take (P.cellsOf q.type)) = xs[i]?) → ∃ y bs, Has (.acons sx sr) y ∧ RepB w y (cs.drop o) bs := by
      intro f l o n cs xs ho hc hok hrest hl hlen hall
      cases xs with
      | nil => simp at hlen
      | cons x xs =>
        have h1 := hall 0 f rfl
        rw [ho, hc] at h1
        obtain ⟨y1, b1, q1, q2⟩ := ih1.1 _ _ _ _ hok h1
        obtain ⟨y2, b2, q3, q4⟩ := ih2.2 l (o + sx.sz) n cs xs hrest (by omega) (by simpa using hlen) (fun i q hq => hall (i + 1) q (by simpa using hq))
        refine ⟨.acons y1 y2, b1 ++ b2, ⟨q1, q3⟩, _, _, b1, b2, ?_, rfl, q2, q4⟩
        rw [← List.drop_drop]; exact (List.take_append_drop sx.sz (cs.drop o)).symm
    refine ⟨fun t fuel cs x ht h => ?_, fun fs o n cs xs hf hl hlen hall => ?_⟩
    · obtain ⟨fs, hu, hc, f, l, hfs, ho, h1, h2, h3⟩ := ht
      obtain ⟨xs, n, _, _, hl, hlen, hall⟩ := DataW.trod_struct hu h
      have := key f l 0 n cs xs ho h1 h2 (by simpa using h3) (by rw [hl, hc]; omega) (by rw [hlen, ← hfs]; simp) (fun i q hq => hall i q (by rw [← hfs] at hq; simpa using hq))
      simpa using this
    · obtain ⟨f, l, rfl, ho, h1, h2, h3⟩ := hf
      exact key f l o n cs xs ho h1 h2 h3 hl hlen hall

/-- A struct that came in. -/
theorem rep_struct {s : Sh} {t : TypeId} {fs : Array Field} {v : Value} {d : DataW H} {ps : List MemPlace} {r : Reach} {b0 : Nat} (hs : (s.ok P).1 t) (hu : P.underlying t = some (.struct fs)) (hagg : ∀ y, Has s y → y.isAgg = true)
    (hval : Value.okWide P w r b0 t v) (h : DataW.Trod enc P w base spare held t v d ps) : ∃ y bs, Has s y ∧ RepV w y v bs := by
  obtain ⟨fuel, h⟩ := h
  obtain ⟨cs, rfl, _⟩ := okWide_struct hu hval
  obtain ⟨y, bs, h1, h2⟩ := (rep_of_trod s).1 t fuel _ _ hs h
  exact ⟨y, bs, h1, (repV_agg (hagg y h1)).2 ⟨_, by simp [Value.cells], h2⟩⟩
/-- A slice that came in. -/
theorem rep_slice {e : Sh} {t u : TypeId} {v : Value} {d : DataW H} {ps : List MemPlace} {r : Reach} {b0 : Nat} (hs : ((Sh.sl e).ok P).1 t) (hu : P.underlying t = some (.slice u))
    (hval : Value.okWide P w r b0 t v) (h : DataW.Trod enc P w base spare held t v d ps) : ∃ y bs, Has (.sl e) y ∧ RepV w y v bs := by
  obtain ⟨fuel, h⟩ := h
  obtain ⟨a, len, cap, rfl⟩ := okWide_slice hu hval
  obtain ⟨y, bs, h1, h2⟩ := (rep_of_trod (.sl e)).1 t fuel _ _ hs h
  have : y.isAgg = false := by cases y <;> first | rfl | exact h1.elim
  exact ⟨y, bs, h1, (repV_one this).2 (by simpa [Value.cells] using h2)⟩
end
end Go.Proofs.Ytomhkcemkapmpaa
