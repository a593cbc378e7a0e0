/- The steps that make memory, and calls. For every world: no condition. -/
import Derived.Test.YtomhkcemkapmpaaDe
namespace Go.Proofs.Ytomhkcemkapmpaa
open Go Go.RowKit
set_option linter.unusedVariables false
set_option linter.unusedSimpArgs false

/-- The zero value of a type as a datum: a table whose rows are checked. -/
def ZOK (P : Program) (Z : Nat → Option D) : Prop :=
  ∀ t d, Z t = some d → szOf P t = some d.sz ∧ ∃ v, (P.info? t).bind (·.zero) = some v ∧ ∀ w, RepV w d v []
/-- Places and sizes of a struct's fields. -/
def plOf (P : Program) (t : Nat) : Option (List (Nat × Nat)) :=
  match P.underlying t with
  | some (.struct fs) => fs.toList.mapM fun f => (szOf P f.type).map fun n => (f.offset, n)
  | _ => none

def asD : SV → (Bool → List Nat → D → Prop) → Prop
  | .d _ _ (.tup _), _ => False
  | .d pr re x, K => K pr re x
  | .cl f .cnil, K => K true [] (.fn f .anil)
  | _, _ => False
def addR (x : D) (p : Bool) (r : List Nat) (p0 : Bool) (r0 : List Nat) (K : Bool → List Nat → Prop) : Prop := if x.flat then K p0 r0 else K (p0 && p) (r0 ++ r)
def evFill (pl : List (Nat × Nat)) : D → Bool → List Nat → List (Nat × SV) → (SV → Prop) → Prop
  | z, pr, re, [], K => K (.d pr re z)
  | z, pr, re, (k, s) :: rest, K => asD s fun p r x =>
      (k < z.nfld ∧ pl[k]? = some (z.offs k, x.sz) ∧ (z.fld k).sz = x.sz) ∧ addR x p r pr re fun pr' re' => evFill pl (z.setFld k x) pr' re' rest K
def evBuild (P : Program) (Z : Nat → Option D) (t : Nat) (parts : List (Nat × SV)) (K : SV → Prop) : Prop :=
  ∃ z pl, Z t = some z ∧ z.isAgg = true ∧ plOf P t = some pl ∧ evFill pl z true [] parts K

/-- The elements of a slice literal, all given, in order. -/
def evElems : Nat → Nat → List (Nat × SV) → Bool → List Nat → List D → (Bool → List Nat → List D → Prop) → Prop
  | _, _, [], pr, re, xs, K => K pr re xs
  | sz, i, (k, s) :: rest, pr, re, xs, K => k = i ∧ asD s fun p r x => x.sz = sz ∧ addR x p r pr re fun pr' re' => evElems sz (i + 1) rest pr' re' (xs ++ [x]) K
def evBuildSlice (P : Program) (t len id : Nat) (parts : List (Nat × SV)) (K : SV → Option Ob → Prop) : Prop :=
  ∃ e sz, slOf P t = some e ∧ szOf P e = some (sz + 1) ∧ (P.info? e).bind (·.zero) ≠ none ∧ parts.length = len ∧ len * (sz + 1) ≤ 16777216 ∧
    evElems (sz + 1) 0 parts true [] [] fun pr re xs => K (.own id 0) (some (.arr 0 pr re (.list len (fun i => xs.getD i .anil)) e (sz + 1)))
def evBox (id t : Nat) (s : SV) (K : SV → Option Ob → Prop) : Prop := asD s fun pr re x => 0 < x.sz ∧ K (.bx id) (some (.var pr re x t))
def evAlloc (Z : Nat → Option D) (id t : Nat) (K : SV → Option Ob → Prop) : Prop := ∃ z, Z t = some z ∧ 0 < z.sz ∧ K (.bx id) (some (.var true [] z t))
def evMake (P : Program) (Z : Nat → Option D) (id t : Nat) (l c : SV) (K : SV → Option Ob → Prop) : Prop :=
  vInt l fun k n => vInt c fun _ m => k = .i64 ∧ n = m ∧ 0 ≤ n ∧ n ≤ 9223372036854775807 ∧
    ∃ e z by_, slOf P t = some e ∧ Z e = some z ∧ 0 < z.sz ∧ byOf P e = some by_ ∧ n * by_ ≤ 281474976710656 ∧ K (.own id 0) (some (.arr 0 true [] (.list n.toNat (fun _ => z)) e z.sz))
def clCaps : List SV → SV
  | [] => .cnil
  | x :: r => .ccons x (clCaps r)

section
variable {P : Program} {Z : Nat → Option D} {J : World → Prop} {w0 : Base} {w : World} {g : Gh} {ob : Nat → Option Ob} {id : Nat}

theorem repV_of_R {x : D} {v : Value} {bs : List Nat} (hx : ∀ l, x ≠ .tup l) (h : RepR w x v bs) : RepV w x v bs := by
  cases x <;> first | exact h | exact absurd rfl (hx _)

theorem asD_sound {s : SV} {v : Value} {K : Bool → List Nat → D → Prop} (h : asD s K) (hs : SVok w g ob s v) :
    ∃ pr re x, K pr re x ∧ ∃ bs, RepV w x v bs ∧ Cov g pr re bs ∧ ∀ b ∈ bs, ¬ Mut g ob b := by
  unfold asD at h
  split at h
  · exact h.elim
  · rename_i pr re x hx
    obtain ⟨bs, h1, h2, h3⟩ := hs
    exact ⟨pr, re, x, h, bs, repV_of_R (fun l e => by subst e; exact hx l rfl) h1, h2, h3⟩
  · obtain ⟨vs, rfl, hv⟩ := hs
    have : vs = [] := hv
    subst this
    exact ⟨_, _, _, h, [], (repV_one rfl).2 ⟨[], rfl, rfl, rfl, rfl⟩, Cov.nil _ _ _, by simp⟩
  · exact h.elim

theorem addR_sound {x : D} {p p0 : Bool} {r r0 : List Nat} {K : Bool → List Nat → Prop} (h : addR x p r p0 r0 K) {cs : List Value} {b b0 : List Nat} (hr : RepB w x cs b) (hc : Cov g p r b) (hc0 : Cov g p0 r0 b0) :
    ∃ p' r', K p' r' ∧ Cov g p' r' (b0 ++ b) := by
  unfold addR at h
  split at h
  · rename_i hf
    have := hr.flat hf; subst this
    exact ⟨_, _, h, by simpa using hc0⟩
  · exact ⟨_, _, h, hc0.app hc⟩

theorem RepB.setFld {z x : D} {cs cx : List Value} {bs bx : List Nat} (h : RepB w z cs bs) (hx : RepB w x cx bx) (k : Nat) (hk : k < z.nfld) (hsz : (z.fld k).sz = x.sz) :
    ∃ l c r bs' rest, cs = l ++ c ++ r ∧ l.length = z.offs k ∧ c.length = cx.length ∧ RepB w (z.setFld k x) (l ++ cx ++ r) bs' ∧ (bs' ++ rest).Perm (bs ++ bx) := by
  induction z generalizing cs bs k with
  | acons y r0 ih1 ih2 =>
    obtain ⟨c1, c2, b1, b2, rfl, rfl, h1, h2⟩ := h
    cases k with
    | zero =>
      refine ⟨[], c1, c2, bx ++ b2, b1, by simp, rfl, ?_, ⟨cx, c2, bx, b2, by simp, rfl, hx, h2⟩, ?_⟩
      · rw [h1.len, hx.len]; exact hsz
      · have : (bx ++ b2 ++ b1).Perm (b1 ++ (bx ++ b2)) := List.perm_append_comm
        refine this.trans ?_
        rw [List.append_assoc]
        exact List.Perm.append_left _ List.perm_append_comm
    | succ k =>
      obtain ⟨l, c, r, bs', rest, rfl, a1, a2, a3, a4⟩ := ih2 h2 k (by simp [D.nfld] at hk; omega) hsz
      refine ⟨c1 ++ l, c, r, b1 ++ bs', rest, by simp, by simp [D.offs, a1, h1.len], a2, ⟨c1, l ++ cx ++ r, b1, bs', by simp, rfl, h1, a3⟩, ?_⟩
      rw [List.append_assoc, List.append_assoc]
      exact List.Perm.append_left _ a4
  | _ => simp [D.nfld] at hk

theorem setFold (l c r cx : List Value) (h : c.length = cx.length) :
    cx.toArray.zipIdx.foldl (fun cs (u, j) => cs.setIfInBounds (l.length + j) u) (l ++ c ++ r).toArray = (l ++ cx ++ r).toArray := by
  have key : ∀ (cx c : List Value) (l : List Value) (k : Nat), c.length = cx.length → ∀ n, n + k = l.length →
      (cx.zipIdx k).foldl (fun cs (x : Value × Nat) => cs.setIfInBounds (n + x.2) x.1) (l ++ c ++ r).toArray = (l ++ cx ++ r).toArray := by
    intro cx
    induction cx with
    | nil => intro c l k hc n hn; have : c = [] := List.length_eq_zero_iff.1 hc; subst this; simp
    | cons u cx ih =>
      intro c l k hc n hn
      cases c with
      | nil => simp at hc
      | cons y c =>
        simp only [List.zipIdx_cons, List.foldl_cons]
        have : (l ++ y :: c ++ r).toArray.setIfInBounds (n + k) u = ((l ++ [u]) ++ c ++ r).toArray := by
          rw [hn]
          simp [List.setIfInBounds_toArray, List.append_assoc]
        rw [this, ih c (l ++ [u]) (k + 1) (by simpa using hc) n (by simp; omega)]
        simp
  have := key cx c l 0 h l.length rfl
  simpa using this

theorem evFill_sound {pl : List (Nat × Nat)} {z : D} {pr : Bool} {re : List Nat} {parts : List (Nat × SV)} {vals : List (Nat × Value)} {K : SV → Prop} (h : evFill pl z pr re parts K)
    (hv : ∀ i : Nat, ∀ k s, parts[i]? = some (k, s) → ∃ u, vals[i]? = some (k, u) ∧ SVok w g ob s u) (hlen : vals.length = parts.length)
    {cs : List Value} {bs : List Nat} (hr : RepB w z cs bs) (hz : z.isAgg = true) (hc : Cov g pr re bs) (hm : ∀ b ∈ bs, ¬ Mut g ob b) :
    ∃ r, K r ∧ ∃ out : List Value, Instr.fill (pl[·]?) cs.toArray vals = some out.toArray ∧ SVok w g ob r (.agg out.toArray) := by
  induction parts generalizing z pr re vals cs bs with
  | nil =>
    have : vals = [] := List.length_eq_zero_iff.1 hlen
    subst this
    refine ⟨_, h, cs, rfl, bs, ?_, hc, hm⟩
    exact repR_of hr ((repV_agg hz).2 ⟨cs, rfl, hr⟩)
  | cons p parts ih =>
    obtain ⟨k, s⟩ := p
    obtain ⟨u, hu, hs⟩ := hv 0 k s rfl
    cases vals with
    | nil => cases hu
    | cons q vals =>
      injection hu with hu; subst hu
      unfold evFill at h
      obtain ⟨p, r, x, ⟨⟨hk, hpl, hsz⟩, hadd⟩, bx, hx, hcx, hmx⟩ := asD_sound h hs
      obtain ⟨pr', re', hK, hc'⟩ := addR_sound hadd hx.cells hcx hc
      obtain ⟨l, c, r', bs', rest, rfl, a1, a2, a3, a4⟩ := hr.setFld hx.cells k hk hsz
      have hz' : (z.setFld k x).isAgg = true := by
        cases z <;> simp [D.isAgg] at hz
        · simp [D.nfld] at hk
        · cases k <;> rfl
      obtain ⟨rr, hKr, out, hout, hok⟩ := ih hK (fun i k s hi => by simpa using hv (i + 1) k s (by simpa using hi)) (by simpa using hlen) a3 hz' (hc'.sub a4) (fun b hb => by
        have := a4.subset (List.mem_append.2 (.inl hb))
        rcases List.mem_append.1 this with h | h
        · exact hm b h
        · exact hmx b h)
      refine ⟨rr, hKr, out, ?_, hok⟩
      unfold Instr.fill
      simp only [hpl]
      have hcl : u.cells.size = x.sz := by rw [← hx.cells.len]; simp
      have hlc : c.length = x.sz := by rw [a2, hx.cells.len]
      rw [if_neg (by simp [hcl, ← a1]; omega)]
      have := setFold l c r' u.cells.toList a2
      rw [Array.toArray_toList] at this
      rw [← a1, this]
      exact hout

theorem mapM_ok {α β : Type} (f : α → Sem β) (h : α → Option β) (hf : ∀ a b, h a = some b → ∀ w, (f a).run P w = .ok b w) : ∀ (l : List α) (r : List β), l.mapM h = some r → ∀ w, (l.mapM f).run P w = .ok r w
  | [], r, hr, w => by simp at hr; subst hr; simp
  | a :: l, r, hr, w => by
    simp only [List.mapM_cons, Option.bind_eq_bind, Option.bind_eq_some_iff] at hr
    obtain ⟨b, hb, r', hr', e⟩ := hr
    simp at e; subst e
    simp [List.mapM_cons, hf a b hb, mapM_ok f h hf l r' hr']

theorem zero_run {t : Nat} {z : D} (hZ : ZOK P Z) (h : Z t = some z) (w : World) : ∃ v, (zeroValue t).run P w = .ok v w ∧ ∀ w', RepV w' z v [] := by
  obtain ⟨_, v, hv, hr⟩ := hZ t z h
  refine ⟨v, ?_, hr⟩
  cases hi : P.info? t with
  | none => rw [hi] at hv; cases hv
  | some i =>
    rw [hi] at hv; simp at hv
    simp [zeroValue, typeInfo, hi, hv]

theorem plOf_spec {t : Nat} {pl : List (Nat × Nat)} (h : plOf P t = some pl) :
    ∃ fs, P.underlying t = some (.struct fs) ∧ ∀ w, (fs.mapM fun f => Prod.mk f.offset <$> sizeOf f.type : Sem (Array (Nat × Nat))).run P w = .ok pl.toArray w := by
  unfold plOf at h
  split at h
  case h_2 => cases h
  rename_i fs hu
  refine ⟨fs, hu, fun w => ?_⟩
  have := mapM_ok (P := P) (fun f : Field => Prod.mk f.offset <$> sizeOf f.type) (fun f => (szOf P f.type).map fun n => (f.offset, n)) (by
    intro f b hb w
    cases hs : szOf P f.type with
    | none => rw [hs] at hb; cases hb
    | some n => rw [hs] at hb; simp at hb; subst hb; simp [run_sizeOf' hs]) fs.toList pl h w
  rw [← Array.toArray_toList (xs := fs)]
  rw [List.mapM_toArray]
  simp only [Sem.run_map, this, Result.andThen_ok]

theorem evBuild_sound {t : Nat} {parts : List (Nat × SV)} {vals : List (Nat × Value)} {K : SV → Prop} (hZ : ZOK P Z) (h : evBuild P Z t parts K)
    (hv : ∀ i : Nat, ∀ k s, parts[i]? = some (k, s) → ∃ u, vals[i]? = some (k, u) ∧ SVok w g ob s u) (hlen : vals.length = parts.length) :
    ∃ r, K r ∧ ∃ u, (Instr.build t vals.toArray).run P w = .ok u w ∧ SVok w g ob r u := by
  obtain ⟨z, pl, hz, ha, hp, h⟩ := h
  obtain ⟨v, hrun, hrep⟩ := zero_run hZ hz w
  obtain ⟨cs, rfl, hb⟩ := (repV_agg ha).1 (hrep w)
  obtain ⟨r, hk, out, hf, hs⟩ := evFill_sound h hv hlen hb ha (Cov.nil _ _ _) (by simp)
  obtain ⟨fs, hu, hm⟩ := plOf_spec hp
  refine ⟨r, hk, _, ?_, hs⟩
  simp [Instr.build, hrun, run_underlying hu, hm, Value.cells, hf]

/-! ### New objects -/
def Gh.put (g : Gh) (id : Nat) (bs : List Nat) (v : Value) : Gh := ⟨fun i => if i = id then bs else g.B i, fun i => if i = id then v else g.H i⟩
def Stab (J : World → Prop) : Prop := ∀ w w', (∀ k, k < w.heap.size → w'.heap[k]? = w.heap[k]?) → w.heap.size ≤ w'.heap.size → J w → J w'

theorem ext_alloc (o : Obj) (v : Value) : Ext id g w (g.put id [w.heap.size] v) (w.alloc o) where
  heap := fun k hk => Below.heap_alloc w o k hk
  size := by simp
  B := fun i hi => by simp [Gh.put, hi]
  H := fun i hi => by simp [Gh.put, hi]
  new := fun b hb => by simp [Gh.put] at hb; omega

theorem ext_same (h0 : g.B id = []) : Ext id g w g w where
  heap := fun _ _ => rfl
  size := Nat.le_refl _
  B := fun _ _ => rfl
  H := fun _ _ => rfl
  new := fun b hb => by rw [h0] at hb; cases hb

theorem upd_none (hu : ob id = none) : upd ob id none = ob := by
  funext i; simp only [upd]; split
  · rename_i e; subst e; exact hu.symm
  · rfl

theorem new_var (hW : WRel J w0 ob g w) (hJ : Stab J) (hu : ob id = none) (h0 : g.B id = []) (h1 : 1 ≤ id) {x : D} {pr : Bool} {re : List Nat} {cs : List Value} {bs : List Nat} {t : Nat}
    (hr : RepB w x cs bs) (hc : Cov g pr re bs) (hm : ∀ b ∈ bs, ¬ Mut g ob b) (hsz : 0 < x.sz) :
    Ext id g w (g.put id [w.heap.size] (.pointer (some ⟨w.heap.size, 0, none⟩))) (w.alloc (.cells cs.toArray t)) ∧
    WRel J w0 (upd ob id (some (.var pr re x t))) (g.put id [w.heap.size] (.pointer (some ⟨w.heap.size, 0, none⟩))) (w.alloc (.cells cs.toArray t)) := by
  have hE : Ext id g w (g.put id [w.heap.size] (.pointer (some ⟨w.heap.size, 0, none⟩))) (w.alloc (.cells cs.toArray t)) := ext_alloc _ _
  refine ⟨hE, hW.ext hE hu h0 h1 (hW.below.alloc hW.below.size _) (hJ _ _ hE.heap hE.size hW.jj) (by simp [Gh.put]) (by simp [Gh.put]) ?_⟩
  intro o ho; injection ho with ho; subst ho
  refine ⟨w.heap.size, cs, bs, by simp [Gh.put], by simp [Gh.put], heap_alloc_new _ _, hr.keep hE.heap, by rw [hr.len]; exact hsz, hc.grow (hE.grow h0), fun c hc' hmm => hm c hc' (hE.mut hu (hr.lt c hc') hmm)⟩

theorem new_arr (hW : WRel J w0 ob g w) (hJ : Stab J) (hu : ob id = none) (h0 : g.B id = []) (h1 : 1 ≤ id) {n cap sz e : Nat} {f : Nat → D} {pr : Bool} {re : List Nat} {cur : Array Value} {bf : Nat → List Nat}
    (hsz : 0 < sz) (hcap : n ≤ cap ∧ cap ≤ maxLen) (hcur : cur.size = cap * sz) (hc : Cov g pr re ((List.range n).flatMap bf))
    (hr : ∀ i, i < n → ∃ ci, RepB w (f i) ci (bf i) ∧ ci.length = sz ∧ ∀ j v, ci[j]? = some v → cur[i * sz + j]? = some v) (hm : ∀ i, i < n → ∀ c ∈ bf i, ¬ Mut g ob c) (ver : Nat) :
    Ext id g w (g.put id [w.heap.size] (.slice (some ⟨w.heap.size, 0, none⟩) n cap)) (w.alloc (.cells cur e)) ∧
    WRel J w0 (upd ob id (some (.arr ver pr re (.list n f) e sz))) (g.put id [w.heap.size] (.slice (some ⟨w.heap.size, 0, none⟩) n cap)) (w.alloc (.cells cur e)) := by
  have hE : Ext id g w (g.put id [w.heap.size] (.slice (some ⟨w.heap.size, 0, none⟩) n cap)) (w.alloc (.cells cur e)) := ext_alloc _ _
  refine ⟨hE, hW.ext hE hu h0 h1 (hW.below.alloc hW.below.size _) (hJ _ _ hE.heap hE.size hW.jj) (by simp [Gh.put]) (by simp [Gh.put]) ?_⟩
  intro o ho; injection ho with ho; subst ho
  refine ⟨n, f, rfl, hsz, .inr ⟨w.heap.size, cap, cur, bf, by simp [Gh.put], by simp [Gh.put], heap_alloc_new _ _, hcap, hcur, hc.grow (hE.grow h0), fun i hi => ?_, fun i hi c hc' hmm => ?_⟩⟩
  · obtain ⟨ci, a1, a2, a3⟩ := hr i hi
    exact ⟨ci, a1.keep hE.heap, a2, a3⟩
  · obtain ⟨ci, a1, _⟩ := hr i hi
    exact hm i hi c hc' (hE.mut hu (a1.lt c hc') hmm)

/-- What a step leaves: its datum, a new object or none, a later ghost and world. -/
def Left (J : World → Prop) (w0 : Base) (id : Nat) (g : Gh) (ob : Nat → Option Ob) (w : World) (r : SV) (nob : Option Ob) (v : Value) (w' : World) : Prop :=
  ∃ g', Ext id g w g' w' ∧ WRel J w0 (upd ob id nob) g' w' ∧ SVok w' g' (upd ob id nob) r v

theorem Left.same (hW : WRel J w0 ob g w) (hu : ob id = none) (h0 : g.B id = []) {r : SV} {v : Value} (h : SVok w g ob r v) : Left J w0 id g ob w r none v w :=
  ⟨g, ext_same h0, by rw [upd_none hu]; exact hW, by rw [upd_none hu]; exact h⟩

theorem evBox_sound {t : Nat} {s : SV} {v : Value} {K : SV → Option Ob → Prop} (hW : WRel J w0 ob g w) (hJ : Stab J) (hu : ob id = none) (h0 : g.B id = []) (h1 : 1 ≤ id) (h : evBox id t s K) (hs : SVok w g ob s v) :
    ∃ r nob, K r nob ∧ ∃ u w', (Instr.box t v).run P w = .ok u w' ∧ Left J w0 id g ob w r nob u w' := by
  obtain ⟨pr, re, x, ⟨hsz, hk⟩, bs, hr, hc, hm⟩ := asD_sound h hs
  obtain ⟨hE, hW'⟩ := new_var (t := t) hW hJ hu h0 h1 hr.cells hc hm hsz
  refine ⟨_, _, hk, _, _, ?_, _, hE, hW', .var pr re x t, by simp [upd], fun _ => rfl⟩
  simp [Instr.box, newVar, newRow, Gh.put]

theorem evAlloc_sound {t : Nat} {K : SV → Option Ob → Prop} (hZ : ZOK P Z) (hW : WRel J w0 ob g w) (hJ : Stab J) (hu : ob id = none) (h0 : g.B id = []) (h1 : 1 ≤ id) (h : evAlloc Z id t K) :
    ∃ r nob, K r nob ∧ ∃ u w', (Instr.alloc t true (.tuple #[])).run P w = .ok u w' ∧ Left J w0 id g ob w r nob u w' := by
  obtain ⟨z, hz, hsz, hk⟩ := h
  obtain ⟨v, hrun, hrep⟩ := zero_run hZ hz w
  obtain ⟨hE, hW'⟩ := new_var (t := t) (pr := true) (re := []) hW hJ hu h0 h1 (hrep w).cells (Cov.nil _ _ _) (by simp) hsz
  refine ⟨_, _, hk, _, _, ?_, _, hE, hW', .var true [] z t, by simp [upd], fun _ => rfl⟩
  simp [Instr.alloc, hrun, newVar, newRow, Gh.put]

theorem rep_rep {n m : Nat} {l : List Value} (hl : l.length = m) (hm : 0 < m) : ((Array.range (n * m)).map (l.toArray[· % l.toArray.size]!)).size = n * m ∧
    ∀ i, i < n → ∀ j v, l[j]? = some v → ((Array.range (n * m)).map (l.toArray[· % l.toArray.size]!))[i * m + j]? = some v := by
  refine ⟨by simp, fun i hi j v hj => ?_⟩
  have hjm : j < m := by rw [← hl]; exact (List.getElem?_eq_some_iff.1 hj).1
  have hlt : i * m + j < n * m := by
    have : (i + 1) * m ≤ n * m := Nat.mul_le_mul_right m hi
    rw [Nat.add_mul] at this; omega
  have hmod : (i * m + j) % m = j := by rw [Nat.add_comm, Nat.add_mul_mod_self_right]; exact Nat.mod_eq_of_lt hjm
  simp [hlt, hl, hmod]
  have := (List.getElem?_eq_some_iff.1 hj)
  obtain ⟨h1, h2⟩ := this
  rw [List.getElem?_eq_getElem h1]; simp [h2]

theorem byOf_run {e n : Nat} (h : byOf P e = some n) : ∃ i, P.info? e = some i ∧ i.bytes = n := by
  unfold byOf at h
  cases hi : P.info? e with
  | none => rw [hi] at h; cases h
  | some i => rw [hi] at h; simp at h; exact ⟨i, rfl, h⟩

theorem evMake_sound {t : Nat} {l c : SV} {vl vc : Value} {K : SV → Option Ob → Prop} (hZ : ZOK P Z) (hW : WRel J w0 ob g w) (hJ : Stab J) (hu : ob id = none) (h0 : g.B id = []) (h1 : 1 ≤ id) (h : evMake P Z id t l c K)
    (hl : SVok w g ob l vl) (hc : SVok w g ob c vc) :
    ∃ r nob, K r nob ∧ ∃ u w', (Instr.makeSlice t vl vc).run P w = .ok u w' ∧ Left J w0 id g ob w r nob u w' := by
  obtain ⟨k, n, rfl, h⟩ := vInt_sound h hl
  obtain ⟨k', m, rfl, h⟩ := vInt_sound h hc
  obtain ⟨_, rfl, hn0, hn1, e, z, by_, he, hz, hsz, hby, hbnd, hk⟩ := h
  obtain ⟨v, hrun, hrep⟩ := zero_run hZ hz w
  obtain ⟨i, hi, rfl⟩ := byOf_run hby
  have hsize := (hZ e z hz).1
  have hcl : v.cells.toList.length = z.sz := (hrep w).cells.len
  have hrr := rep_rep (n := n.toNat) hcl hsz
  obtain ⟨hE, hW'⟩ := new_arr (e := e) (n := n.toNat) (cap := n.toNat) (sz := z.sz) (f := fun _ => z) (pr := true) (re := []) (bf := fun _ => []) hW hJ hu h0 h1 hsz ⟨Nat.le_refl _, by unfold maxLen; omega⟩ hrr.1
    (by have e0 : (List.range n.toNat).flatMap (fun _ => ([] : List Nat)) = [] := by simp
        rw [e0]; exact Cov.nil _ _ _) (fun i hi => ⟨v.cells.toList, (hrep w).cells, hcl, hrr.2 i hi⟩) (by simp) 0
  refine ⟨_, _, hk, _, _, ?_, _, hE, hW', _, by simp [upd]; rfl, fun u hu => Nat.zero_le _, fun _ => rfl⟩
  have hw1 : IntKind.i64.wrap n = n := by
    have : IntKind.i64.wrap n = n := by
      unfold IntKind.wrap
      simp only [IntKind.bits, IntKind.signed, Bool.true_and]
      have : n % (2 ^ 64 : Int) = n := Int.emod_eq_of_lt hn0 (by omega)
      simp only [this]
      rw [if_neg (by simp; omega)]
    exact this
  simp only [Instr.makeSlice, Sem.run_bind, run_underlying (slOf_spec he), Result.andThen_ok, asInt, asIntOf, typeInfo, run_program, hi, Sem.run_pure, hw1]
  have hnn : ¬ (n < 0) := by omega
  have hbig : ¬ ((i.bytes : Int) * n > 2 ^ 48) := by rw [Int.mul_comm]; omega
  simp only [hnn, hbig, decide_false, Bool.or_false, Bool.false_eq_true, if_false, gt_iff_lt, Int.lt_irrefl, Sem.run_bind, run_askRoom, Result.andThen_ok, run_sizeOf' hsize]
  simp only [Array.toArray_toList, Gh.put, if_true]
  by_cases hz0 : n.toNat * z.sz = 0
  · simp only [hz0, if_true, newRow, Sem.run_bind, Sem.run_pure, Result.andThen_ok, run_newObj_alloc]
    have e1 : ∀ f : Nat → Value, (Array.range 0).map f = #[] := fun f => Array.ext (by simp) (fun i h => by simp at h)
    rw [e1, e1]
  · simp [hz0, hrun, newRow]

/-- Elements, each with its cells and blocks. -/
def Els (w : World) (sz : Nat) (xs : List D) (cs : List Value) (bf : List (List Nat)) : Prop :=
  xs.length = bf.length ∧ cs.length = xs.length * sz ∧ ∀ (i : Nat) x, xs[i]? = some x → ∃ ci b, RepB w x ci b ∧ bf[i]? = some b ∧ ci.length = sz ∧ ∀ j v, ci[j]? = some v → cs[i * sz + j]? = some v

theorem evElems_sound {sz i : Nat} {parts : List (Nat × SV)} {vals : List (Nat × Value)} {pr : Bool} {re : List Nat} {xs : List D} {K : Bool → List Nat → List D → Prop} (h : evElems sz i parts pr re xs K)
    (hv : ∀ i : Nat, ∀ k s, parts[i]? = some (k, s) → ∃ u, vals[i]? = some (k, u) ∧ SVok w g ob s u) (hlen : vals.length = parts.length)
    {cs : List Value} {bf : List (List Nat)} (hx : Els w sz xs cs bf) (hi : xs.length = i) (hc : Cov g pr re bf.flatten) (hm : ∀ b ∈ bf.flatten, ¬ Mut g ob b) (zs : List Value) (hzs : zs.length = vals.length * sz) :
    ∃ pr' re' xs', K pr' re' xs' ∧ ∃ cs' bf', Els w sz xs' cs' bf' ∧ xs'.length = i + parts.length ∧ Cov g pr' re' bf'.flatten ∧ (∀ b ∈ bf'.flatten, ¬ Mut g ob b) ∧
      Instr.fill (fun i => some (i * sz, sz)) (cs ++ zs).toArray vals = some cs'.toArray := by
  induction parts generalizing i vals pr re xs cs bf zs with
  | nil =>
    have : vals = [] := List.length_eq_zero_iff.1 hlen
    subst this
    have : zs = [] := List.length_eq_zero_iff.1 (by simpa using hzs)
    subst this
    exact ⟨_, _, _, h, cs, bf, hx, by simp [hi], hc, hm, by simp [Instr.fill]⟩
  | cons p parts ih =>
    obtain ⟨k, s⟩ := p
    obtain ⟨u, hu, hs⟩ := hv 0 k s rfl
    cases vals with
    | nil => cases hu
    | cons q vals =>
      injection hu with hu; subst hu
      unfold evElems at h
      obtain ⟨rfl, h⟩ := h
      obtain ⟨p, r, x, ⟨hsz, hadd⟩, bx, hrx, hcx, hmx⟩ := asD_sound h hs
      obtain ⟨pr', re', hK, hc'⟩ := addR_sound hadd hrx.cells hcx hc
      have hul : u.cells.toList.length = sz := by rw [hrx.cells.len, hsz]
      simp only [List.length_cons] at hzs
      rw [Nat.add_mul] at hzs
      obtain ⟨z1, z2, rfl, hz1⟩ : ∃ z1 z2, zs = z1 ++ z2 ∧ z1.length = sz := ⟨zs.take sz, zs.drop sz, by simp, by rw [List.length_take]; omega⟩
      have hx' : Els w sz (xs ++ [x]) (cs ++ u.cells.toList) (bf ++ [bx]) := by
        obtain ⟨e1, e2, e3⟩ := hx
        refine ⟨by simp [e1], by rw [List.length_append, hul, e2]; simp [Nat.add_mul], fun i y hy => ?_⟩
        rcases Nat.lt_or_ge i xs.length with hlt | hge
        · rw [List.getElem?_append_left hlt] at hy
          obtain ⟨ci, b, a1, a2, a3, a4⟩ := e3 i y hy
          refine ⟨ci, b, a1, by rw [List.getElem?_append_left (by omega)]; exact a2, a3, fun j v hj => ?_⟩
          have := a4 j v hj
          rw [List.getElem?_append_left (List.getElem?_eq_some_iff.1 this).1]; exact this
        · rw [List.getElem?_append_right hge] at hy
          have hi0 : i = xs.length := by
            have := (List.getElem?_eq_some_iff.1 hy).1
            simp at this; omega
          subst hi0
          simp at hy; subst hy
          refine ⟨u.cells.toList, bx, hrx.cells, by rw [List.getElem?_append_right (by omega)]; simp [e1], hul, fun j v hj => ?_⟩
          rw [List.getElem?_append_right (by omega), e2, Nat.add_sub_cancel_left]; exact hj
      obtain ⟨pr2, re2, xs', hk2, cs', bf', q1, q2, q3, q4, q5⟩ := ih hK (fun i k s hi => by simpa using hv (i + 1) k s (by simpa using hi)) (by simpa using hlen) hx' (by simp [hi])
        (by simpa using hc') (fun b hb => by
          simp only [List.flatten_append, List.flatten_cons, List.flatten_nil, List.append_nil] at hb
          rcases List.mem_append.1 hb with h | h
          · exact hm b h
          · exact hmx b h) z2 (by simp at hzs ⊢; omega)
      refine ⟨pr2, re2, xs', hk2, cs', bf', q1, by simp [q2]; omega, q3, q4, ?_⟩
      unfold Instr.fill
      have hcl : u.cells.size = sz := by simpa using hul
      have hcs : cs.length = k * sz := by rw [hx.2.1, hi]
      dsimp only
      rw [if_neg (by simp [hcl, hcs, hz1])]
      have := setFold cs z1 z2 u.cells.toList (by rw [hz1, hul])
      rw [Array.toArray_toList] at this
      rw [← hcs, ← List.append_assoc, this]
      exact q5

theorem evBuildSlice_sound {t len : Nat} {parts : List (Nat × SV)} {vals : List (Nat × Value)} {K : SV → Option Ob → Prop} (hW : WRel J w0 ob g w) (hJ : Stab J) (hu : ob id = none) (h0 : g.B id = []) (h1 : 1 ≤ id)
    (h : evBuildSlice P t len id parts K) (hv : ∀ i : Nat, ∀ k s, parts[i]? = some (k, s) → ∃ u, vals[i]? = some (k, u) ∧ SVok w g ob s u) (hlen : vals.length = parts.length) :
    ∃ r nob, K r nob ∧ ∃ u w', (Instr.buildSlice t len vals.toArray).run P w = .ok u w' ∧ Left J w0 id g ob w r nob u w' := by
  obtain ⟨e, sz, he, hsz, hz, hpl, hbig, h⟩ := h
  have hzero : ∃ zc : Array Value, (len * (sz + 1) = 0 ∧ zc = #[]) ∨ (len * (sz + 1) ≠ 0 ∧ ∃ v : Value, (zeroValue e).run P w = .ok v w ∧ zc = v.cells) := by
    by_cases h0 : len * (sz + 1) = 0
    · exact ⟨#[], .inl ⟨h0, rfl⟩⟩
    · cases hi : P.info? e with
      | none => rw [hi] at hz; simp at hz
      | some i =>
        rw [hi] at hz
        simp only [Option.bind_some] at hz
        obtain ⟨v, hv⟩ := Option.ne_none_iff_exists'.1 hz
        exact ⟨v.cells, .inr ⟨h0, v, by simp [zeroValue, typeInfo, hi, hv], rfl⟩⟩
  obtain ⟨zc, hzc⟩ := hzero
  obtain ⟨pr, re, xs, hk, cs, bf, q1, q2, q3, q4, q5⟩ := evElems_sound (w := w) (g := g) (ob := ob) h hv hlen (cs := []) (bf := []) ⟨rfl, by simp, fun i x hx => by simp at hx⟩ rfl (Cov.nil _ _ _) (by simp)
    ((List.range (len * (sz + 1))).map (zc[· % zc.size]!)) (by simp [hlen, hpl])
  have hxl : xs.length = len := by rw [q2, hpl]; simp
  obtain ⟨e1, e2, e3⟩ := q1
  have hflat : (List.range len).flatMap (fun i => bf.getD i []) = bf.flatten := by
    have : len = bf.length := by rw [← e1, hxl]
    rw [this, List.flatMap_def]
    congr 1
    apply List.ext_getElem (by simp)
    intro i h1 h2
    simp [h2]
  obtain ⟨hE, hW'⟩ := new_arr (e := e) (n := len) (cap := len) (sz := sz + 1) (f := fun i => xs.getD i .anil) (pr := pr) (re := re) (cur := cs.toArray) (bf := fun i => bf.getD i []) hW hJ hu h0 h1 (Nat.succ_pos _) ⟨Nat.le_refl _, by
      have : len * 1 ≤ len * (sz + 1) := Nat.mul_le_mul_left _ (by omega)
      unfold maxLen; omega⟩
    (by rw [List.size_toArray, e2, hxl]) (by rw [hflat]; exact q3) (fun i hi => by
      obtain ⟨x, hx⟩ : ∃ x, xs[i]? = some x := ⟨xs[i]'(by omega), List.getElem?_eq_getElem (by omega)⟩
      obtain ⟨ci, b, a1, a2, a3, a4⟩ := e3 i x hx
      refine ⟨ci, ?_, a3, fun j v hj => by simpa using a4 j v hj⟩
      rw [List.getD_eq_getElem?_getD, List.getD_eq_getElem?_getD, hx, a2]; exact a1) (fun i hi c hc' => by
      have hib : i < bf.length := by omega
      rw [List.getD_eq_getElem?_getD, List.getElem?_eq_getElem hib] at hc'
      exact q4 c (List.mem_flatten.2 ⟨bf[i], List.getElem_mem hib, hc'⟩)) 0
  refine ⟨_, _, hk, _, _, ?_, _, hE, hW', _, by simp [upd]; rfl, fun u hu => Nat.zero_le _, fun _ => rfl⟩
  simp only [Instr.buildSlice, Sem.run_bind, run_underlying (slOf_spec he), Result.andThen_ok, run_sizeOf' hsz]
  rw [if_neg (by omega)]
  have hfill : Instr.fill (fun i => some (i * (sz + 1), sz + 1)) ((Array.range (len * (sz + 1))).map (zc[· % zc.size]!)) vals = some cs.toArray := by
    have : ((Array.range (len * (sz + 1))).map (zc[· % zc.size]!)) = ([] ++ (List.range (len * (sz + 1))).map (zc[· % zc.size]!)).toArray := by
      apply Array.toList_inj.1; simp
    rw [this]; exact q5
  rcases hzc with ⟨h0', rfl⟩ | ⟨h0', v, hrun, rfl⟩
  · rw [if_pos h0']
    simp only [Sem.run_bind, Sem.run_pure, Result.andThen_ok, hfill]
    simp [newRow, Gh.put]
  · rw [if_neg h0']
    simp only [Sem.run_bind, Sem.run_pure, Result.andThen_ok, hrun, hfill]
    simp [newRow, Gh.put]
end
end Go.Proofs.Ytomhkcemkapmpaa
