/- The data-level state of a function's frame, and when a frame and a world stand for it. For every world: no condition. -/
import Derived.Test.YtomhkcemkapmpaaDa
namespace Go.Proofs.Ytomhkcemkapmpaa
open Go Go.RowKit
set_option linter.unusedVariables false
set_option linter.unusedSimpArgs false

inductive SV where
  | d (pr : Bool) (re : List Nat) (x : D)
  | ea (pr : Bool) (re : List Nat) (x : D)
  | own (id ver : Nat)
  | oa (id ver i : Nat)
  | bx (id : Nat)
  | bf (id k : Nat)
  | cl (g : Nat) (caps : SV)
  | cnil
  | ccons (x r : SV)
  | junk

inductive Ob where
  | arr (ver : Nat) (pr : Bool) (re : List Nat) (x : D) (e sz : Nat)
  | var (pr : Bool) (re : List Nat) (x : D) (t : Nat)
  | frz (ver : Nat) (pr : Bool) (re : List Nat) (x : D)
  | dead

def Ob.live : Ob → Bool
  | .arr .. => true
  | .var .. => true
  | _ => false
def Ob.isVar : Ob → Bool
  | .var .. => true
  | _ => false
def Ob.ver? : Ob → Option Nat
  | .arr v .. => some v
  | .frz v .. => some v
  | _ => none

structure Gh where
  B : Nat → List Nat
  H : Nat → Value

def Cov (g : Gh) (pr : Bool) (re bs : List Nat) : Prop :=
  (∀ b ∈ bs, b ∈ re.flatMap g.B) ∧ (pr = true → ∃ l, (bs ++ l).Perm (re.flatMap g.B))

def Mut (g : Gh) (ob : Nat → Option Ob) (b : Nat) : Prop := ∃ i o, ob i = some o ∧ o.live = true ∧ b ∈ g.B i

section
variable (w : World) (g : Gh) (ob : Nat → Option Ob)
def DOK (pr : Bool) (re : List Nat) (x : D) (v : Value) : Prop := ∃ bs, RepR w x v bs ∧ Cov g pr re bs ∧ ∀ b ∈ bs, ¬ Mut g ob b

mutual
def SVok : SV → Value → Prop
  | .d pr re x, v => DOK w g ob pr re x v
  | .ea pr re x, v => ∃ ad cs bs, v = .pointer (some ad) ∧ RepB w x cs bs ∧ CellsAt w ad 0 cs ∧ 0 < cs.length ∧ Cov g pr re bs ∧ (∀ b ∈ bs, ¬ Mut g ob b) ∧
      ¬ Mut g ob ad.block ∧ ad.block ∈ re.flatMap g.B
  | .own id ver, v => ∃ o, ob id = some o ∧ (∀ u, o.ver? = some u → ver ≤ u) ∧ (o.ver? = some ver → v = g.H id)
  | .oa id ver i, v => ∃ o, ob id = some o ∧ (∀ u, o.ver? = some u → ver ≤ u) ∧ ∀ pr re x e sz, o = .arr ver pr re x e sz → ∃ b n cap, g.H id = .slice (some ⟨b, 0, none⟩) n cap ∧ i < n ∧ v = .pointer (some ((⟨b, 0, none⟩ : Addr).add (i * sz)))
  | .bx id, v => ∃ o, ob id = some o ∧ (o.isVar = true → v = g.H id)
  | .bf id k, v => ∃ o, ob id = some o ∧ ∀ pr re x t, o = .var pr re x t → ∃ b f, g.H id = .pointer (some ⟨b, 0, none⟩) ∧ v = .pointer (some ((⟨b, 0, none⟩ : Addr).add f)) ∧ k = f
  | .cl f caps, v => ∃ vs, v = .func (.func f) #[] vs.toArray ∧ SVl caps vs
  | .cnil, _ => False
  | .ccons _ _, _ => False
  | .junk, _ => True
def SVl : SV → List Value → Prop
  | .cnil, vs => vs = []
  | .ccons x r, vs => ∃ v vs', vs = v :: vs' ∧ SVok x v ∧ SVl r vs'
  | _, _ => False
end

def ObOK (id : Nat) : Ob → Prop
  | .arr _ pr re x e sz => ∃ n f, x = .list n f ∧ 0 < sz ∧ ((g.H id = .slice none 0 0 ∧ n = 0) ∨
      ∃ b cap cur bf, g.H id = .slice (some ⟨b, 0, none⟩) n cap ∧ b ∈ g.B id ∧ w.heap[b]? = some (.cells cur e (0, 0)) ∧ (n ≤ cap ∧ cap ≤ maxLen) ∧ cur.size = cap * sz ∧
        Cov g pr re ((List.range n).flatMap bf) ∧ (∀ i, i < n → ∃ ci, RepB w (f i) ci (bf i) ∧ ci.length = sz ∧ ∀ j v, ci[j]? = some v → cur[i * sz + j]? = some v) ∧
        ∀ i, i < n → ∀ c ∈ bf i, ¬ Mut g ob c)
  | .var pr re x t => ∃ b cs bs, g.H id = .pointer (some ⟨b, 0, none⟩) ∧ b ∈ g.B id ∧ w.heap[b]? = some (.cells cs.toArray t (0, 0)) ∧ RepB w x cs bs ∧ 0 < cs.length ∧ Cov g pr re bs ∧ ∀ c ∈ bs, ¬ Mut g ob c
  | .frz _ pr re x => DOK w g ob pr (id :: re) x (g.H id)
  | .dead => True
end

/-- Where the call began: the world, and the blocks of its arguments. -/
structure Base extends World where
  A : List Nat

structure WRel (J : World → Prop) (w0 : Base) (ob : Nat → Option Ob) (g : Gh) (w : World) : Prop where
  below : Below w0.heap.size w0.toWorld w
  jj : J w
  obs : ∀ id o, ob id = some o → ObOK w g ob id o
  disj : ∀ i j, 1 ≤ i → 1 ≤ j → i ≠ j → ∀ b ∈ g.B i, b ∉ g.B j
  nd : ∀ i, 1 ≤ i → (g.B i).Nodup
  new : ∀ i, 1 ≤ i → ∀ b ∈ g.B i, w0.heap.size ≤ b ∧ b < w.heap.size
  arg : ∀ b ∈ g.B 0, b < w0.heap.size ∧ b ∈ w0.A
  ob0 : ob 0 = none

/-- A step that makes memory alone: what it made is of id's. -/
structure Ext (id : Nat) (g : Gh) (w : World) (g' : Gh) (w' : World) : Prop where
  heap : ∀ k, k < w.heap.size → w'.heap[k]? = w.heap[k]?
  size : w.heap.size ≤ w'.heap.size
  B : ∀ i, i ≠ id → g'.B i = g.B i
  H : ∀ i, i ≠ id → g'.H i = g.H i
  new : ∀ b ∈ g'.B id, w.heap.size ≤ b

def upd (ob : Nat → Option Ob) (id : Nat) (n : Option Ob) : Nat → Option Ob := fun i => if i = id then n else ob i

theorem flatMap_sub {g g' : Gh} (h : ∀ i, ∀ b ∈ g.B i, b ∈ g'.B i) (re : List Nat) : ∀ b ∈ re.flatMap g.B, b ∈ re.flatMap g'.B := by
  intro b hb
  obtain ⟨i, hi, hb⟩ := List.mem_flatMap.1 hb
  exact List.mem_flatMap.2 ⟨i, hi, h i b hb⟩

theorem flatMap_grow {g g' : Gh} (h : ∀ i, ∃ l, (g.B i ++ l).Perm (g'.B i)) (re : List Nat) : ∃ l, (re.flatMap g.B ++ l).Perm (re.flatMap g'.B) := by
  induction re with
  | nil => exact ⟨[], by simp⟩
  | cons i r ih =>
    obtain ⟨l1, h1⟩ := h i
    obtain ⟨l2, h2⟩ := ih
    refine ⟨l1 ++ l2, ?_⟩
    simp only [List.flatMap_cons]
    have : (g.B i ++ r.flatMap g.B ++ (l1 ++ l2)).Perm ((g.B i ++ l1) ++ (r.flatMap g.B ++ l2)) := by
      simp only [List.append_assoc]
      refine List.Perm.append_left _ ?_
      rw [← List.append_assoc, ← List.append_assoc]
      exact List.Perm.append_right _ List.perm_append_comm
    exact this.trans (h1.append h2)

theorem Cov.grow {g g' : Gh} {pr : Bool} {re bs : List Nat} (h : Cov g pr re bs) (hg : ∀ i, ∃ l, (g.B i ++ l).Perm (g'.B i)) : Cov g' pr re bs := by
  refine ⟨fun b hb => flatMap_sub (fun i b hb => ?_) re b (h.1 b hb), fun hp => ?_⟩
  · obtain ⟨l, hl⟩ := hg i
    exact hl.subset (List.mem_append.2 (.inl hb))
  · obtain ⟨l, hl⟩ := h.2 hp
    obtain ⟨l2, h2⟩ := flatMap_grow hg re
    refine ⟨l ++ l2, ?_⟩
    rw [← List.append_assoc]
    exact (List.Perm.append_right l2 hl).trans h2

theorem Ext.grow {id : Nat} {g g' : Gh} {w w' : World} (h : Ext id g w g' w') (h0 : g.B id = []) : ∀ i, ∃ l, (g.B i ++ l).Perm (g'.B i) := by
  intro i
  by_cases hi : i = id
  · subst hi; exact ⟨g'.B i, by rw [h0]; exact List.Perm.refl _⟩
  · exact ⟨[], by rw [h.B i hi]; simp⟩

theorem Cov.nil (g : Gh) (pr : Bool) (re : List Nat) : Cov g pr re [] := ⟨by simp, fun _ => ⟨_, List.Perm.refl _⟩⟩
theorem Cov.sub {g : Gh} {pr : Bool} {re bs b1 b2 : List Nat} (h : Cov g pr re bs) (hp : (b1 ++ b2).Perm bs) : Cov g pr re b1 := by
  refine ⟨fun b hb => h.1 b (hp.subset (List.mem_append.2 (.inl hb))), fun hpr => ?_⟩
  obtain ⟨l, hl⟩ := h.2 hpr
  exact ⟨b2 ++ l, by rw [← List.append_assoc]; exact (List.Perm.append_right l hp).trans hl⟩
theorem Cov.app {g : Gh} {p1 p2 : Bool} {r1 r2 b1 b2 : List Nat} (h1 : Cov g p1 r1 b1) (h2 : Cov g p2 r2 b2) : Cov g (p1 && p2) (r1 ++ r2) (b1 ++ b2) := by
  refine ⟨fun b hb => ?_, fun hp => ?_⟩
  · rw [List.flatMap_append]
    rcases List.mem_append.1 hb with hb | hb
    · exact List.mem_append.2 (.inl (h1.1 b hb))
    · exact List.mem_append.2 (.inr (h2.1 b hb))
  · simp only [Bool.and_eq_true] at hp
    obtain ⟨l1, e1⟩ := h1.2 hp.1
    obtain ⟨l2, e2⟩ := h2.2 hp.2
    refine ⟨l1 ++ l2, ?_⟩
    rw [List.flatMap_append]
    have : (b1 ++ b2 ++ (l1 ++ l2)).Perm ((b1 ++ l1) ++ (b2 ++ l2)) := by
      simp only [List.append_assoc]
      refine List.Perm.append_left _ ?_
      rw [← List.append_assoc, ← List.append_assoc]
      exact List.Perm.append_right _ List.perm_append_comm
    exact this.trans (e1.append e2)
theorem Cov.weak {g : Gh} {pr : Bool} {re bs : List Nat} (h : Cov g pr re bs) : Cov g false re bs := ⟨h.1, fun h => by cases h⟩

/-- What stays: the heap on the blocks that count. -/
theorem RepR.keep {w w' : World} {x : D} {v : Value} {bs : List Nat} (h : RepR w x v bs) (hh : ∀ k, k < w.heap.size → w'.heap[k]? = w.heap[k]?) : RepR w' x v bs :=
  h.agr (fun b hb => hh b (h.lt b hb))
theorem RepB.keep {w w' : World} {x : D} {v : List Value} {bs : List Nat} (h : RepB w x v bs) (hh : ∀ k, k < w.heap.size → w'.heap[k]? = w.heap[k]?) : RepB w' x v bs :=
  h.agr (fun b hb => hh b (h.lt b hb))

section
variable {J : World → Prop} {w0 : Base} {w w' : World} {ob : Nat → Option Ob} {g g' : Gh} {id : Nat} {n : Option Ob}

theorem WRel.mut_lt (h : WRel J w0 ob g w) {b : Nat} (hb : Mut g ob b) : w0.heap.size ≤ b ∧ b < w.heap.size := by
  obtain ⟨i, o, hi, _, hb⟩ := hb
  exact h.new i (by rcases Nat.eq_zero_or_pos i with h0 | h0; · subst h0; rw [h.ob0] at hi; cases hi
                    · exact h0) b hb

theorem Ext.mut (hE : Ext id g w g' w') (hu : ob id = none) {b : Nat} (hb : b < w.heap.size) : Mut g' (upd ob id n) b → Mut g ob b := by
  rintro ⟨i, o, hi, hl, hm⟩
  by_cases e : i = id
  · subst e; have := hE.new b hm; omega
  · rw [hE.B i e] at hm
    simp only [upd, e, if_false] at hi
    exact ⟨i, o, hi, hl, hm⟩

theorem DOK.ext (hE : Ext id g w g' w') (hu : ob id = none) (h0 : g.B id = []) {pr : Bool} {re : List Nat} {x : D} {v : Value} (h : DOK w g ob pr re x v) : DOK w' g' (upd ob id n) pr re x v := by
  obtain ⟨bs, h1, h2, h3⟩ := h
  exact ⟨bs, h1.keep hE.heap, h2.grow (hE.grow h0), fun b hb hm => h3 b hb (hE.mut hu (h1.lt b hb) hm)⟩

mutual
theorem SVok.ext (hE : Ext id g w g' w') (hu : ob id = none) (h0 : g.B id = []) : ∀ (s : SV) {v : Value}, SVok w g ob s v → SVok w' g' (upd ob id n) s v
  | .d pr re x, v, h => DOK.ext hE hu h0 h
  | .ea pr re x, v, h => by
    obtain ⟨ad, cs, bs, hv, h1, h2, h3, h4, h5, h6, h7⟩ := h
    have hl := h2.lt h3
    exact ⟨ad, cs, bs, hv, h1.keep hE.heap, h2.agr (hE.heap _ hl), h3, h4.grow (hE.grow h0), fun b hb hm => h5 b hb (hE.mut hu (h1.lt b hb) hm),
      fun hm => h6 (hE.mut hu hl hm), flatMap_sub (fun i b hb => by obtain ⟨l, hl⟩ := hE.grow h0 i; exact hl.subset (List.mem_append.2 (.inl hb))) re _ h7⟩
  | .own i ver, v, h => by
    obtain ⟨o, ho, hb, h⟩ := h
    have hi : i ≠ id := fun e => by subst e; rw [hu] at ho; cases ho
    exact ⟨o, by simp [upd, hi, ho], hb, by rw [hE.H i hi]; exact h⟩
  | .oa i ver k, v, h => by
    obtain ⟨o, ho, hb, h⟩ := h
    have hi : i ≠ id := fun e => by subst e; rw [hu] at ho; cases ho
    exact ⟨o, by simp [upd, hi, ho], hb, by rw [hE.H i hi]; exact h⟩
  | .bx i, v, h => by
    obtain ⟨o, ho, h⟩ := h
    have hi : i ≠ id := fun e => by subst e; rw [hu] at ho; cases ho
    exact ⟨o, by simp [upd, hi, ho], by rw [hE.H i hi]; exact h⟩
  | .bf i k, v, h => by
    obtain ⟨o, ho, h⟩ := h
    have hi : i ≠ id := fun e => by subst e; rw [hu] at ho; cases ho
    exact ⟨o, by simp [upd, hi, ho], by rw [hE.H i hi]; exact h⟩
  | .cl f caps, v, h => by
    obtain ⟨vs, hv, h⟩ := h
    exact ⟨vs, hv, SVl.ext hE hu h0 caps h⟩
  | .cnil, v, h => h.elim
  | .ccons _ _, v, h => h.elim
  | .junk, v, h => trivial
theorem SVl.ext (hE : Ext id g w g' w') (hu : ob id = none) (h0 : g.B id = []) : ∀ (s : SV) {vs : List Value}, SVl w g ob s vs → SVl w' g' (upd ob id n) s vs
  | .cnil, vs, h => h
  | .ccons x r, vs, h => by
    obtain ⟨v, vs', hv, h1, h2⟩ := h
    exact ⟨v, vs', hv, SVok.ext hE hu h0 x h1, SVl.ext hE hu h0 r h2⟩
  | .d _ _ _, vs, h => h.elim
  | .ea _ _ _, vs, h => h.elim
  | .own _ _, vs, h => h.elim
  | .oa _ _ _, vs, h => h.elim
  | .bx _, vs, h => h.elim
  | .bf _ _, vs, h => h.elim
  | .cl _ _, vs, h => h.elim
  | .junk, vs, h => h.elim
end

theorem ObOK.ext (hE : Ext id g w g' w') (hu : ob id = none) (h0 : g.B id = []) {i : Nat} (hi : i ≠ id) : ∀ (o : Ob), (o.live = true → ∀ b ∈ g.B i, b < w.heap.size) → ObOK w g ob i o → ObOK w' g' (upd ob id n) i o
  | .arr ver pr re x e sz, hl, h => by
    obtain ⟨n', f, hx, hsz, h⟩ := h
    refine ⟨n', f, hx, hsz, ?_⟩
    rw [hE.H i hi, hE.B i hi]
    rcases h with h | ⟨b, cap, cur, bf, h1, h2, h3, h4, h5, h6, h7, h8⟩
    · exact .inl h
    · refine .inr ⟨b, cap, cur, bf, h1, h2, ?_, h4, h5, h6.grow (hE.grow h0), fun k hk => ?_, fun k hk c hc hm => ?_⟩
      · rw [hE.heap b (Array.getElem?_eq_some_iff.1 h3).1]; exact h3
      · obtain ⟨ci, a1, a2, a3⟩ := h7 k hk
        exact ⟨ci, a1.keep hE.heap, a2, a3⟩
      · obtain ⟨ci, a1, _⟩ := h7 k hk
        exact h8 k hk c hc (hE.mut hu (a1.lt c hc) hm)
  | .var pr re x t, hl, h => by
    obtain ⟨b, cs, bs, h1, h2, h3, h4, h5, h6, h7⟩ := h
    refine ⟨b, cs, bs, by rw [hE.H i hi]; exact h1, by rw [hE.B i hi]; exact h2, ?_, h4.keep hE.heap, h5, h6.grow (hE.grow h0), fun c hc hm => h7 c hc (hE.mut hu (h4.lt c hc) hm)⟩
    rw [hE.heap b (Array.getElem?_eq_some_iff.1 h3).1]; exact h3
  | .frz ver pr re x, hl, h => by
    show DOK w' g' _ pr (i :: re) x (g'.H i)
    rw [hE.H i hi]
    exact DOK.ext hE hu h0 h
  | .dead, _, _ => trivial

/-- A step that makes memory: the relation behind it. -/
theorem WRel.ext (h : WRel J w0 ob g w) (hE : Ext id g w g' w') (hu : ob id = none) (h0 : g.B id = []) (h1 : 1 ≤ id) (hb : Below w0.heap.size w0.toWorld w') (hj : J w')
    (hnd : (g'.B id).Nodup) (hlt : ∀ b ∈ g'.B id, b < w'.heap.size) (hn : ∀ o, n = some o → ObOK w' g' (upd ob id n) id o) : WRel J w0 (upd ob id n) g' w' where
  below := hb
  jj := hj
  obs := fun i o ho => by
    by_cases e : i = id
    · subst e; exact hn o (by simpa [upd] using ho)
    · simp only [upd, e, if_false] at ho
      have hi1 : 1 ≤ i := by
        rcases Nat.eq_zero_or_pos i with z | z
        · subst z; rw [h.ob0] at ho; cases ho
        · exact z
      exact ObOK.ext hE hu h0 e o (fun _ b hb => (h.new i hi1 b hb).2) (h.obs i o ho)
  disj := fun i j hi hj hij b hbi hbj => by
    by_cases ei : i = id
    · subst ei
      rw [hE.B j (Ne.symm hij)] at hbj
      have := hE.new b hbi
      have := (h.new j hj b hbj).2
      omega
    · rw [hE.B i ei] at hbi
      by_cases ej : j = id
      · subst ej
        have := hE.new b hbj
        have := (h.new i hi b hbi).2
        omega
      · rw [hE.B j ej] at hbj
        exact h.disj i j hi hj hij b hbi hbj
  nd := fun i hi => by
    by_cases ei : i = id
    · subst ei; exact hnd
    · rw [hE.B i ei]; exact h.nd i hi
  new := fun i hi b hbi => by
    by_cases ei : i = id
    · subst ei
      exact ⟨Nat.le_trans h.below.size (hE.new b hbi), hlt b hbi⟩
    · rw [hE.B i ei] at hbi
      exact ⟨(h.new i hi b hbi).1, Nat.lt_of_lt_of_le (h.new i hi b hbi).2 hE.size⟩
  arg := fun b hb0 => by
    rw [hE.B 0 (by omega)] at hb0
    exact h.arg b hb0
  ob0 := by simp only [upd]; rw [if_neg (by omega)]; exact h.ob0

end
end Go.Proofs.Ytomhkcemkapmpaa
