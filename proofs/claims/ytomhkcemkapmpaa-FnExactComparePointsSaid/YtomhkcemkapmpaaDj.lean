/- Changes of memory of the frame's own: what stays. For every world: no condition. -/
import Derived.Test.YtomhkcemkapmpaaDi
namespace Go.Proofs.Ytomhkcemkapmpaa
open Go Go.RowKit
set_option linter.unusedVariables false
set_option linter.unusedSimpArgs false

/-- The object id alone is changed (its old blocks stay its own). -/
structure Mod (id : Nat) (g : Gh) (w : World) (g' : Gh) (w' : World) : Prop where
  heap : ∀ k, k < w.heap.size → k ∉ g.B id → w'.heap[k]? = w.heap[k]?
  size : w.heap.size ≤ w'.heap.size
  B : ∀ i, i ≠ id → g'.B i = g.B i
  H : ∀ i, i ≠ id → g'.H i = g.H i
  grow : ∃ l, (g.B id ++ l).Perm (g'.B id) ∧ l.Nodup ∧ ∀ b ∈ l, w.heap.size ≤ b ∧ b < w'.heap.size

/-- The object's new make goes on from the old one. -/
def Goes (same : Prop) : Ob → Ob → Prop
  | .arr v _ _ _ e sz, .arr v' _ _ _ e' sz' => e' = e ∧ sz' = sz ∧ (v' = v + 1 ∨ (v' = v ∧ same))
  | .var _ _ _ _, .var _ _ _ _ => same
  | _, _ => False

section
variable {P : Program} {J : World → Prop} {w0 : Base} {w w' : World} {ob : Nat → Option Ob} {g g' : Gh} {id : Nat} {o o' : Ob}

theorem Goes.live {s : Prop} (h : Goes s o o') : o.live = true ∧ o'.live = true := by
  cases o <;> cases o' <;> simp_all [Goes, Ob.live]

theorem Mod.growB (hM : Mod id g w g' w') : ∀ i, ∃ l, (g.B i ++ l).Perm (g'.B i) := by
  intro i
  by_cases hi : i = id
  · subst hi; obtain ⟨l, hl, _⟩ := hM.grow; exact ⟨l, hl⟩
  · exact ⟨[], by rw [hM.B i hi]; simp⟩

theorem Mod.mut (hM : Mod id g w g' w') (ho : ob id = some o) (hl : o.live = true) {b : Nat} (hb : b < w.heap.size) : Mut g' (upd ob id (some o')) b → Mut g ob b := by
  rintro ⟨i, q, hi, hq, hm⟩
  by_cases e : i = id
  · subst e
    obtain ⟨l, hp, _, hnew⟩ := hM.grow
    rcases List.mem_append.1 (hp.symm.subset hm) with h | h
    · exact ⟨i, o, ho, hl, h⟩
    · have := hnew b h; omega
  · rw [hM.B i e] at hm
    simp only [upd, e, if_false] at hi
    exact ⟨i, q, hi, hq, hm⟩

theorem DOK.mod (hM : Mod id g w g' w') (ho : ob id = some o) (hl : o.live = true) {pr : Bool} {re : List Nat} {x : D} {v : Value} (h : DOK w g ob pr re x v) : DOK w' g' (upd ob id (some o')) pr re x v := by
  obtain ⟨bs, h1, h2, h3⟩ := h
  exact ⟨bs, h1.agr (fun b hb => hM.heap b (h1.lt b hb) (fun hm => h3 b hb ⟨id, o, ho, hl, hm⟩)), h2.grow hM.growB, fun b hb hm => h3 b hb (hM.mut ho hl (h1.lt b hb) hm)⟩

mutual
theorem SVok.mod (hM : Mod id g w g' w') (ho : ob id = some o) (hg : Goes (g'.H id = g.H id) o o') : ∀ (s : SV) {v : Value}, SVok w g ob s v → SVok w' g' (upd ob id (some o')) s v
  | .d pr re x, v, h => DOK.mod hM ho hg.live.1 h
  | .ea pr re x, v, h => by
    obtain ⟨ad, cs, bs, hv, h1, h2, h3, h4, h5, h6, h7⟩ := h
    have hl := h2.lt h3
    exact ⟨ad, cs, bs, hv, h1.agr (fun b hb => hM.heap b (h1.lt b hb) (fun hm => h5 b hb ⟨id, o, ho, hg.live.1, hm⟩)), h2.agr (hM.heap _ hl (fun hm => h6 ⟨id, o, ho, hg.live.1, hm⟩)), h3, h4.grow hM.growB,
      fun b hb hm => h5 b hb (hM.mut ho hg.live.1 (h1.lt b hb) hm), fun hm => h6 (hM.mut ho hg.live.1 hl hm),
      flatMap_sub (fun i b hb => by obtain ⟨l, hl⟩ := hM.growB i; exact hl.subset (List.mem_append.2 (.inl hb))) re _ h7⟩
  | .own i ver, v, h => by
    obtain ⟨q, hq, hb, h⟩ := h
    by_cases hi : i = id
    · subst hi
      rw [ho] at hq; injection hq with hq; subst hq
      refine ⟨o', by simp [upd], ?_⟩
      cases o <;> cases o' <;> simp only [Goes] at hg
      · obtain ⟨_, _, hv | ⟨hv, hH⟩⟩ := hg
        · have := hb _ rfl
          exact ⟨fun u hu => by simp [Ob.ver?] at hu; omega, fun hu => by simp [Ob.ver?] at hu; omega⟩
        · subst hv
          exact ⟨hb, fun hu => by rw [hH]; exact h hu⟩
      · exact ⟨fun u hu => by simp [Ob.ver?] at hu, fun hu => by simp [Ob.ver?] at hu⟩
    · exact ⟨q, by simp [upd, hi, hq], hb, by rw [hM.H i hi]; exact h⟩
  | .oa i ver k, v, h => by
    obtain ⟨q, hq, hb, h⟩ := h
    by_cases hi : i = id
    · subst hi
      rw [ho] at hq; injection hq with hq; subst hq
      refine ⟨o', by simp [upd], ?_⟩
      cases o <;> cases o' <;> simp only [Goes] at hg
      · obtain ⟨rfl, rfl, hv | ⟨hv, hH⟩⟩ := hg
        · have := hb _ rfl
          exact ⟨fun u hu => by simp [Ob.ver?] at hu; omega, fun _ _ _ _ _ e => by injection e; omega⟩
        · subst hv
          refine ⟨hb, fun pr re x e sz eq => ?_⟩
          injection eq with e1 e2 e3 e4 e5 e6
          subst e1; subst e6
          rw [hH]
          exact h _ _ _ _ _ rfl
      · exact ⟨fun u hu => by simp [Ob.ver?] at hu, fun _ _ _ _ _ e => by cases e⟩
    · exact ⟨q, by simp [upd, hi, hq], hb, by rw [hM.H i hi]; exact h⟩
  | .bx i, v, h => by
    obtain ⟨q, hq, h⟩ := h
    by_cases hi : i = id
    · subst hi
      rw [ho] at hq; injection hq with hq; subst hq
      refine ⟨o', by simp [upd], ?_⟩
      cases o <;> cases o' <;> simp only [Goes] at hg
      · exact fun e => by cases e
      · intro _
        rw [hg]
        exact h rfl
    · exact ⟨q, by simp [upd, hi, hq], by rw [hM.H i hi]; exact h⟩
  | .bf i k, v, h => by
    obtain ⟨q, hq, h⟩ := h
    by_cases hi : i = id
    · subst hi
      rw [ho] at hq; injection hq with hq; subst hq
      refine ⟨o', by simp [upd], ?_⟩
      cases o <;> cases o' <;> simp only [Goes] at hg
      · exact fun _ _ _ _ e => by cases e
      · intro pr re x t _
        rw [hg]
        exact h _ _ _ _ rfl
    · exact ⟨q, by simp [upd, hi, hq], by rw [hM.H i hi]; exact h⟩
  | .cl f caps, v, h => by
    obtain ⟨vs, hv, h⟩ := h
    exact ⟨vs, hv, SVl.mod hM ho hg caps h⟩
  | .cnil, v, h => h.elim
  | .ccons _ _, v, h => h.elim
  | .junk, v, h => trivial
theorem SVl.mod (hM : Mod id g w g' w') (ho : ob id = some o) (hg : Goes (g'.H id = g.H id) o o') : ∀ (s : SV) {vs : List Value}, SVl w g ob s vs → SVl w' g' (upd ob id (some o')) s vs
  | .cnil, vs, h => h
  | .ccons x r, vs, h => by
    obtain ⟨v, vs', hv, h1, h2⟩ := h
    exact ⟨v, vs', hv, SVok.mod hM ho hg x h1, SVl.mod hM ho hg r h2⟩
  | .d _ _ _, vs, h => h.elim
  | .ea _ _ _, vs, h => h.elim
  | .own _ _, vs, h => h.elim
  | .oa _ _ _, vs, h => h.elim
  | .bx _, vs, h => h.elim
  | .bf _ _, vs, h => h.elim
  | .cl _ _, vs, h => h.elim
  | .junk, vs, h => h.elim
end

theorem ObOK.mod (hM : Mod id g w g' w') (ho : ob id = some o) (hl : o.live = true) {i : Nat} (hi : i ≠ id) (hd : ∀ b ∈ g.B i, b ∉ g.B id) : ∀ (q : Ob), ObOK w g ob i q → ObOK w' g' (upd ob id (some o')) i q
  | .arr ver pr re x e sz, h => by
    obtain ⟨n', f, hx, hsz, h⟩ := h
    refine ⟨n', f, hx, hsz, ?_⟩
    rw [hM.H i hi, hM.B i hi]
    rcases h with h | ⟨b, cap, cur, bf, h1, h2, h3, h4, h5, h6, h7, h8⟩
    · exact .inl h
    · refine .inr ⟨b, cap, cur, bf, h1, h2, ?_, h4, h5, h6.grow hM.growB, fun k hk => ?_, fun k hk c hc hm => ?_⟩
      · rw [hM.heap b (Array.getElem?_eq_some_iff.1 h3).1 (hd b h2)]; exact h3
      · obtain ⟨ci, a1, a2, a3⟩ := h7 k hk
        exact ⟨ci, a1.agr (fun c hc => hM.heap c (a1.lt c hc) (fun hm => h8 k hk c hc ⟨id, o, ho, hl, hm⟩)), a2, a3⟩
      · obtain ⟨ci, a1, _⟩ := h7 k hk
        exact h8 k hk c hc (hM.mut ho hl (a1.lt c hc) hm)
  | .var pr re x t, h => by
    obtain ⟨b, cs, bs, h1, h2, h3, h4, h5, h6, h7⟩ := h
    refine ⟨b, cs, bs, by rw [hM.H i hi]; exact h1, by rw [hM.B i hi]; exact h2, ?_, h4.agr (fun c hc => hM.heap c (h4.lt c hc) (fun hm => h7 c hc ⟨id, o, ho, hl, hm⟩)), h5, h6.grow hM.growB,
      fun c hc hm => h7 c hc (hM.mut ho hl (h4.lt c hc) hm)⟩
    rw [hM.heap b (Array.getElem?_eq_some_iff.1 h3).1 (hd b h2)]; exact h3
  | .frz ver pr re x, h => by
    show DOK w' g' _ pr (i :: re) x (g'.H i)
    rw [hM.H i hi]
    exact DOK.mod hM ho hl h
  | .dead, _ => trivial

theorem WRel.mod (h : WRel J w0 ob g w) (hJ : Stab J) (hM : Mod id g w g' w') (ho : ob id = some o) (hl : o.live = true) (hos : w'.os = w.os) (htp : w'.tape = w.tape) (hout : w'.output = w.output) (hj0 : J w0.toWorld)
    (hn : ObOK w' g' (upd ob id (some o')) id o') : WRel J w0 (upd ob id (some o')) g' w' := by
  have hid : 1 ≤ id := by
    rcases Nat.eq_zero_or_pos id with z | z
    · subst z; rw [h.ob0] at ho; cases ho
    · exact z
  have hb : Below w0.heap.size w0.toWorld w' := by
    refine ⟨hos.trans h.below.os, htp.trans h.below.tape, hout.trans h.below.output, Nat.le_trans h.below.size hM.size, fun k hk => ?_⟩
    rw [hM.heap k (Nat.lt_of_lt_of_le hk h.below.size) (fun hm => by have := (h.new id hid k hm).1; omega)]
    exact h.below.block k hk
  have hB : ∀ i, ∀ b ∈ g'.B i, b ∈ g.B i ∨ (i = id ∧ w.heap.size ≤ b ∧ b < w'.heap.size) := by
    intro i b hb
    by_cases e : i = id
    · subst e
      obtain ⟨l, hp, _, hnew⟩ := hM.grow
      rcases List.mem_append.1 (hp.symm.subset hb) with h | h
      · exact .inl h
      · exact .inr ⟨rfl, hnew b h⟩
    · rw [hM.B i e] at hb; exact .inl hb
  refine ⟨hb, hJ w0.toWorld w' hb.block hb.size hj0, fun i q hq => ?_, fun i j hi hj hij b hbi hbj => ?_, fun i hi => ?_, fun i hi b hbi => ?_, fun b hb0 => ?_, ?_⟩
  · by_cases e : i = id
    · subst e
      simp [upd] at hq; subst hq; exact hn
    · simp only [upd, e, if_false] at hq
      have hi1 : 1 ≤ i := by
        rcases Nat.eq_zero_or_pos i with z | z
        · subst z; rw [h.ob0] at hq; cases hq
        · exact z
      exact ObOK.mod hM ho hl e (fun b hb => h.disj i id hi1 hid e b hb) q (h.obs i q hq)
  · rcases hB i b hbi with h1 | ⟨rfl, h1, h1'⟩
    · rcases hB j b hbj with h2 | ⟨rfl, h2, h2'⟩
      · exact h.disj i j hi hj hij b h1 h2
      · have := (h.new i hi b h1).2; omega
    · rcases hB j b hbj with h2 | ⟨e2, _⟩
      · have := (h.new j hj b h2).2; omega
      · exact hij e2.symm
  · by_cases e : i = id
    · subst e
      obtain ⟨l, hp, hnd, hnew⟩ := hM.grow
      refine hp.nodup_iff.1 (List.nodup_append.2 ⟨h.nd i hi, hnd, fun a ha b hb e => ?_⟩)
      subst e
      have := (h.new i hi a ha).2
      have := (hnew a hb).1
      omega
    · rw [hM.B i e]; exact h.nd i hi
  · rcases hB i b hbi with h1 | ⟨rfl, h1, h1'⟩
    · exact ⟨(h.new i hi b h1).1, Nat.lt_of_lt_of_le (h.new i hi b h1).2 hM.size⟩
    · exact ⟨Nat.le_trans h.below.size h1, h1'⟩
  · rw [hM.B 0 (by omega)] at hb0; exact h.arg b hb0
  · simp only [upd]; rw [if_neg (by omega)]; exact h.ob0

/-! ### Freezing -/
theorem Mut.frz {ver : Nat} {pr : Bool} {re : List Nat} {x : D} {b : Nat} : Mut g (upd ob id (some (.frz ver pr re x))) b → Mut g ob b := by
  rintro ⟨i, q, hi, hq, hm⟩
  by_cases e : i = id
  · subst e; simp [upd] at hi; subst hi; simp [Ob.live] at hq
  · simp only [upd, e, if_false] at hi; exact ⟨i, q, hi, hq, hm⟩
theorem DOK.frz {ver : Nat} {pr' : Bool} {re' : List Nat} {x' : D} {pr : Bool} {re : List Nat} {x : D} {v : Value} (h : DOK w g ob pr re x v) : DOK w g (upd ob id (some (.frz ver pr' re' x'))) pr re x v := by
  obtain ⟨bs, h1, h2, h3⟩ := h
  exact ⟨bs, h1, h2, fun b hb hm => h3 b hb hm.frz⟩
mutual
theorem SVok.frz {ver : Nat} {pr : Bool} {re : List Nat} {x : D} {e sz : Nat} (ho : ob id = some (.arr ver pr re x e sz)) : ∀ (s : SV) {v : Value}, SVok w g ob s v → SVok w g (upd ob id (some (.frz ver pr re x))) s v
  | .d pr re x, v, h => DOK.frz h
  | .ea pr re x, v, h => by
    obtain ⟨ad, cs, bs, hv, h1, h2, h3, h4, h5, h6, h7⟩ := h
    exact ⟨ad, cs, bs, hv, h1, h2, h3, h4, fun b hb hm => h5 b hb hm.frz, fun hm => h6 hm.frz, h7⟩
  | .own i v', v, h => by
    obtain ⟨q, hq, hb, h⟩ := h
    by_cases hi : i = id
    · subst hi; rw [ho] at hq; injection hq with hq; subst hq
      exact ⟨.frz ver pr re x, by simp [upd], hb, h⟩
    · exact ⟨q, by simp [upd, hi, hq], hb, h⟩
  | .oa i v' k, v, h => by
    obtain ⟨q, hq, hb, h⟩ := h
    by_cases hi : i = id
    · subst hi; rw [ho] at hq; injection hq with hq; subst hq
      exact ⟨.frz ver pr re x, by simp [upd], hb, fun _ _ _ _ _ e => by cases e⟩
    · exact ⟨q, by simp [upd, hi, hq], hb, h⟩
  | .bx i, v, h => by
    obtain ⟨q, hq, h⟩ := h
    by_cases hi : i = id
    · subst hi; rw [ho] at hq; injection hq with hq; subst hq
      exact ⟨.frz ver pr re x, by simp [upd], fun e => by cases e⟩
    · exact ⟨q, by simp [upd, hi, hq], h⟩
  | .bf i k, v, h => by
    obtain ⟨q, hq, h⟩ := h
    by_cases hi : i = id
    · subst hi; rw [ho] at hq; injection hq with hq; subst hq
      exact ⟨.frz ver pr re x, by simp [upd], fun _ _ _ _ e => by cases e⟩
    · exact ⟨q, by simp [upd, hi, hq], h⟩
  | .cl f caps, v, h => by
    obtain ⟨vs, hv, h⟩ := h
    exact ⟨vs, hv, SVl.frz ho caps h⟩
  | .cnil, v, h => h.elim
  | .ccons _ _, v, h => h.elim
  | .junk, v, h => trivial
theorem SVl.frz {ver : Nat} {pr : Bool} {re : List Nat} {x : D} {e sz : Nat} (ho : ob id = some (.arr ver pr re x e sz)) : ∀ (s : SV) {vs : List Value}, SVl w g ob s vs → SVl w g (upd ob id (some (.frz ver pr re x))) s vs
  | .cnil, vs, h => h
  | .ccons x r, vs, h => by
    obtain ⟨v, vs', hv, h1, h2⟩ := h
    exact ⟨v, vs', hv, SVok.frz ho x h1, SVl.frz ho r h2⟩
  | .d _ _ _, vs, h => h.elim
  | .ea _ _ _, vs, h => h.elim
  | .own _ _, vs, h => h.elim
  | .oa _ _ _, vs, h => h.elim
  | .bx _, vs, h => h.elim
  | .bf _ _, vs, h => h.elim
  | .cl _ _, vs, h => h.elim
  | .junk, vs, h => h.elim
end

theorem WRel.frz (h : WRel J w0 ob g w) {ver : Nat} {pr : Bool} {re : List Nat} {x : D} {e sz : Nat} (ho : ob id = some (.arr ver pr re x e sz)) :
    WRel J w0 (upd ob id (some (.frz ver pr re x))) g w := by
  have hid : 1 ≤ id := by
    rcases Nat.eq_zero_or_pos id with z | z
    · subst z; rw [h.ob0] at ho; cases ho
    · exact z
  refine ⟨h.below, h.jj, fun i q hq => ?_, h.disj, h.nd, h.new, h.arg, by simp only [upd]; rw [if_neg (by omega)]; exact h.ob0⟩
  by_cases hi : i = id
  · subst hi
    simp [upd] at hq; subst hq
    show DOK w g _ pr (i :: re) x (g.H i)
    obtain ⟨n, f, rfl, hsz, hh⟩ := h.obs i _ ho
    rcases hh with ⟨e1, rfl⟩ | ⟨b, cap, cur, bf, e1, e2, e3, e4, e5, e6, e7, e8⟩
    · exact ⟨[], (repV_one (x := .list 0 f) rfl).2 ⟨none, 0, by rw [e1], Nat.le_refl _, .inl ⟨rfl, rfl⟩⟩, Cov.nil _ _ _, by simp⟩
    · by_cases hn : n = 0
      · subst hn; exact ⟨[], (repV_one (x := .list 0 f) rfl).2 ⟨_, cap, by rw [e1], e4.1, .inl ⟨rfl, rfl⟩⟩, Cov.nil _ _ _, by simp⟩
      · refine ⟨b :: (List.range n).flatMap bf, (repV_one (x := .list n f) rfl).2 ⟨_, cap, by rw [e1], e4.1, .inr ⟨by omega, ⟨b, 0, none⟩, sz, bf, rfl, hsz, rfl, fun k hk => ?_⟩⟩, ?_, fun c hc hm => ?_⟩
        · obtain ⟨ci, a1, a2, a3⟩ := e7 k hk
          refine ⟨ci, a1, a2, fun j u hj => ?_⟩
          have : (⟨b, 0, none⟩ : Addr).add (k * sz + j) = ⟨b, k * sz + j, none⟩ := by unfold Addr.add; split <;> simp_all
          rw [this]
          simp only [World.cell?, e3]
          exact a3 j u hj
        · have hc1 : Cov g true [i] [b] := by
            refine ⟨fun c hc => by simp at hc; subst hc; simpa using e2, fun _ => ?_⟩
            refine ⟨(g.B i).erase b, ?_⟩
            simp only [List.flatMap_cons, List.flatMap_nil, List.append_nil, List.singleton_append]
            exact (List.perm_cons_erase e2).symm
          have := hc1.app e6
          simpa using this
        · rcases List.mem_cons.1 hc with rfl | hc
          · obtain ⟨j, q, hj, hq, hmj⟩ := hm
            by_cases hji : j = i
            · subst hji; simp [upd] at hj; subst hj; simp [Ob.live] at hq
            · have hj1 : 1 ≤ j := by
                simp only [upd, hji, if_false] at hj
                rcases Nat.eq_zero_or_pos j with z | z
                · subst z; rw [h.ob0] at hj; cases hj
                · exact z
              exact h.disj i j hid hj1 (Ne.symm hji) c e2 hmj
          · obtain ⟨k, hk, hc⟩ := List.mem_flatMap.1 hc
            exact e8 k (List.mem_range.1 hk) c hc hm.frz
  · simp only [upd, hi, if_false] at hq
    have hob := h.obs i q hq
    cases q with
    | arr ver' pr' re' x' e' sz' =>
      obtain ⟨n, f, hx, hsz, hh⟩ := hob
      refine ⟨n, f, hx, hsz, hh.imp (fun h => h) ?_⟩
      rintro ⟨b, cap, cur, bf, e1, e2, e3, e4, e5, e6, e7, e8⟩
      exact ⟨b, cap, cur, bf, e1, e2, e3, e4, e5, e6, e7, fun k hk c hc hm => e8 k hk c hc hm.frz⟩
    | var pr' re' x' t' =>
      obtain ⟨b, cs, bs, e1, e2, e3, e4, e5, e6, e7⟩ := hob
      exact ⟨b, cs, bs, e1, e2, e3, e4, e5, e6, fun c hc hm => e7 c hc hm.frz⟩
    | frz ver' pr' re' x' => exact DOK.frz hob
    | dead => trivial
end
end Go.Proofs.Ytomhkcemkapmpaa
