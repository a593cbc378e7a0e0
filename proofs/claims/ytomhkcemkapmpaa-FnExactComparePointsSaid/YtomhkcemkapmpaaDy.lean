/- What a state may forget. For every world: no condition. -/
import Derived.Test.YtomhkcemkapmpaaDm
namespace Go.Proofs.Ytomhkcemkapmpaa
open Go Go.RowKit
set_option linter.unusedVariables false
set_option linter.unusedSimpArgs false

def Sub (ob ob' : Nat → Option Ob) : Prop := ∀ j o, ob j = some o → ob' j = some o
/-- It tells less. -/
def Wk (st st' : St) : Prop := ∀ (J : World → Prop) (w0 : Base) (N : Nat) (g : Gh) (a : Act) (w : World), Rel J w0 N st g a w → ∃ g', Rel J w0 N st' g' a w
def SV.keep (n0 : Nat) (ob : Nat → Option Ob) : SV → Prop
  | .d _ re _ => ∀ r ∈ re, r < n0
  | .ea _ re _ => ∀ r ∈ re, r < n0
  | .own id _ => (ob id).isSome = true
  | .oa id _ _ => (ob id).isSome = true
  | .bx id => (ob id).isSome = true
  | .bf id _ => (ob id).isSome = true
  | .cl _ caps => caps.keep n0 ob
  | .ccons x r => x.keep n0 ob ∧ r.keep n0 ob
  | .cnil => True
  | .junk => True
def Ob.keep (n0 : Nat) : Ob → Prop
  | .arr _ _ re _ _ _ => ∀ r ∈ re, r < n0
  | .var _ re _ _ => ∀ r ∈ re, r < n0
  | .frz _ _ re _ => ∀ r ∈ re, r < n0
  | .dead => True
structure WkOK (n0 : Nat) (st st' : St) : Prop where
  nx : st'.nx = n0
  pos : 1 ≤ n0
  obs : ∀ p ∈ st'.obs, p.1 < n0 ∧ getO st.obs p.1 = some p.2 ∧ p.2.keep n0
  env : ∀ p ∈ st'.env, (getE st.env p.1 = p.2 ∧ p.2.keep n0 (getO st'.obs)) ∨ p.2 = .junk

theorem getO_mem {id : Nat} {o : Ob} : ∀ {l : List (Nat × Ob)}, getO l id = some o → (id, o) ∈ l
  | [], h => by cases h
  | (k, q) :: r, h => by
    unfold getO at h; split at h
    · rename_i e; subst e; injection h with h; subst h; exact List.mem_cons_self ..
    · exact List.mem_cons_of_mem _ (getO_mem h)
theorem getE_mem {t : Nat} : ∀ (l : List (Nat × SV)), (t, getE l t) ∈ l ∨ getE l t = .junk
  | [] => .inr rfl
  | (k, q) :: r => by
    unfold getE; split
    · rename_i e; subst e; exact .inl (List.mem_cons_self ..)
    · rcases getE_mem (t := t) r with h | h
      · exact .inl (List.mem_cons_of_mem _ h)
      · exact .inr h

section
variable {w : World} {g : Gh} {ob ob' : Nat → Option Ob} {n0 : Nat}
def Gh.keep (g : Gh) (n0 : Nat) : Gh := ⟨fun i => if i < n0 then g.B i else [], g.H⟩
theorem keep_B {i : Nat} (h : i < n0) : (g.keep n0).B i = g.B i := by simp [Gh.keep, h]
theorem keep_flat : ∀ re : List Nat, (∀ r ∈ re, r < n0) → re.flatMap (g.keep n0).B = re.flatMap g.B
  | [], _ => rfl
  | r :: re, h => by
    simp only [List.flatMap_cons]
    rw [keep_B (h r (List.mem_cons_self ..)), keep_flat re (fun x hx => h x (List.mem_cons_of_mem _ hx))]
theorem Cov.keep {pr : Bool} {re bs : List Nat} (h : Cov g pr re bs) (hr : ∀ r ∈ re, r < n0) : Cov (g.keep n0) pr re bs := by
  unfold Cov at *; rw [keep_flat re hr]; exact h
theorem Mut.keep (hs : Sub ob' ob) {b : Nat} (h : Mut (g.keep n0) ob' b) : Mut g ob b := by
  obtain ⟨i, o, h1, h2, h3⟩ := h
  refine ⟨i, o, hs _ _ h1, h2, ?_⟩
  unfold Gh.keep at h3
  simp only at h3
  split at h3
  · exact h3
  · cases h3
theorem DOK.keep (hs : Sub ob' ob) {pr : Bool} {re : List Nat} {x : D} {v : Value} (h : DOK w g ob pr re x v) (hr : ∀ r ∈ re, r < n0) : DOK w (g.keep n0) ob' pr re x v := by
  obtain ⟨bs, h1, h2, h3⟩ := h
  exact ⟨bs, h1, h2.keep hr, fun b hb hm => h3 b hb (Mut.keep hs hm)⟩
theorem same_ob (hs : Sub ob' ob) {id : Nat} {o : Ob} (h : (ob' id).isSome = true) (ho : ob id = some o) : ob' id = some o := by
  obtain ⟨o', h'⟩ := Option.isSome_iff_exists.1 h
  have := hs _ _ h'
  rw [ho] at this; injection this with this; subst this; exact h'
mutual
theorem SVok.keep (hs : Sub ob' ob) : ∀ (s : SV) {v : Value}, s.keep n0 ob' → SVok w g ob s v → SVok w (g.keep n0) ob' s v
  | .d pr re x, v, hk, h => DOK.keep hs h hk
  | .ea pr re x, v, hk, h => by
    obtain ⟨ad, cs, bs, hv, h1, h2, h3, h4, h5, h6, h7⟩ := h
    exact ⟨ad, cs, bs, hv, h1, h2, h3, h4.keep hk, fun b hb hm => h5 b hb (Mut.keep hs hm), fun hm => h6 (Mut.keep hs hm), by rw [keep_flat re hk]; exact h7⟩
  | .own id ver, v, hk, h => by obtain ⟨o, ho, h⟩ := h; exact ⟨o, same_ob hs hk ho, h⟩
  | .oa id ver i, v, hk, h => by obtain ⟨o, ho, h⟩ := h; exact ⟨o, same_ob hs hk ho, h⟩
  | .bx id, v, hk, h => by obtain ⟨o, ho, h⟩ := h; exact ⟨o, same_ob hs hk ho, h⟩
  | .bf id k, v, hk, h => by obtain ⟨o, ho, h⟩ := h; exact ⟨o, same_ob hs hk ho, h⟩
  | .cl f caps, v, hk, h => by obtain ⟨vs, hv, h⟩ := h; exact ⟨vs, hv, SVl.keep hs caps hk h⟩
  | .cnil, _, _, h => h
  | .ccons _ _, _, _, h => h
  | .junk, _, _, _ => trivial
theorem SVl.keep (hs : Sub ob' ob) : ∀ (s : SV) {vs : List Value}, s.keep n0 ob' → SVl w g ob s vs → SVl w (g.keep n0) ob' s vs
  | .cnil, _, _, h => h
  | .ccons x r, vs, hk, h => by
    obtain ⟨v, vs', e, h1, h2⟩ := h
    exact ⟨v, vs', e, SVok.keep hs x hk.1 h1, SVl.keep hs r hk.2 h2⟩
  | .d _ _ _, _, _, h => h.elim
  | .ea _ _ _, _, _, h => h.elim
  | .own _ _, _, _, h => h.elim
  | .oa _ _ _, _, _, h => h.elim
  | .bx _, _, _, h => h.elim
  | .bf _ _, _, _, h => h.elim
  | .cl _ _, _, _, h => h.elim
  | .junk, _, _, h => h.elim
end
theorem ObOK.keep (hs : Sub ob' ob) {id : Nat} (hid : id < n0) : ∀ {o : Ob}, o.keep n0 → ObOK w g ob id o → ObOK w (g.keep n0) ob' id o
  | .arr v pr re x e sz, hk, h => by
    obtain ⟨n, f, hx, hsz, h⟩ := h
    refine ⟨n, f, hx, hsz, ?_⟩
    rcases h with h | ⟨b, cap, cur, bf, h1, h2, h3, h4, h5, h6, h7, h8⟩
    · exact .inl h
    · exact .inr ⟨b, cap, cur, bf, h1, by rw [keep_B hid]; exact h2, h3, h4, h5, h6.keep hk, h7, fun i hi c hc hm => h8 i hi c hc (Mut.keep hs hm)⟩
  | .var pr re x t, hk, h => by
    obtain ⟨b, cs, bs, h1, h2, h3, h4, h5, h6, h7⟩ := h
    exact ⟨b, cs, bs, h1, by rw [keep_B hid]; exact h2, h3, h4, h5, h6.keep hk, fun c hc hm => h7 c hc (Mut.keep hs hm)⟩
  | .frz v pr re x, hk, h => DOK.keep hs h (fun r hr => by
      rcases List.mem_cons.1 hr with rfl | hr
      · exact hid
      · exact hk r hr)
  | .dead, _, _ => trivial
end

theorem WkOK.wk {n0 : Nat} {st st' : St} (h : WkOK n0 st st') : Wk st st' := by
  intro J w0 N g a w hR
  have hs : Sub (getO st'.obs) (getO st.obs) := fun j o ho => (h.obs _ (getO_mem ho)).2.1
  have hlt : ∀ j o, getO st'.obs j = some o → j < n0 := fun j o ho => (h.obs _ (getO_mem ho)).1
  have hB : ∀ i b, b ∈ (g.keep n0).B i → b ∈ g.B i := fun i b hb => by
    unfold Gh.keep at hb; simp only at hb; split at hb
    · exact hb
    · cases hb
  refine ⟨g.keep n0, hR.size, hR.defers, ⟨hR.W.below, hR.W.jj, fun id o ho => ObOK.keep hs (hlt _ _ ho) (h.obs _ (getO_mem ho)).2.2 (hR.W.obs _ _ (hs _ _ ho)), fun i j hi hj hij b hb hb' => hR.W.disj i j hi hj hij b (hB _ _ hb) (hB _ _ hb'),
    fun i hi => ?_, fun i hi b hb => hR.W.new i hi b (hB _ _ hb), fun b hb => hR.W.arg b (hB _ _ hb), ?_⟩, fun t => ?_, fun i hi => ?_, by rw [h.nx]; exact h.pos⟩
  · unfold Gh.keep; simp only; split
    · exact hR.W.nd i hi
    · exact List.nodup_nil
  · cases h0 : getO st'.obs 0 with
    | none => rfl
    | some o => have := hs _ _ h0; rw [hR.W.ob0] at this; cases this
  · rcases getE_mem (t := t) st'.env with hm | hj
    · rcases h.env _ hm with ⟨he, hk⟩ | hj
      · simp only at he hk
        have := SVok.keep hs _ hk (by rw [← he]; exact hR.env t)
        exact this
      · simp only at hj; rw [hj]; trivial
    · rw [hj]; trivial
  · rw [h.nx] at hi
    refine ⟨?_, by unfold Gh.keep; simp only; rw [if_neg (by omega)]⟩
    cases h0 : getO st'.obs i with
    | none => rfl
    | some o => have := hlt _ _ h0; omega

end Go.Proofs.Ytomhkcemkapmpaa
