/- Soundness of a step that changes no memory of the frame's own. For every world: no condition. -/
import Derived.Test.YtomhkcemkapmpaaDg
namespace Go.Proofs.Ytomhkcemkapmpaa
open Go Go.RowKit
set_option linter.unusedVariables false
set_option linter.unusedSimpArgs false
variable {P : Program} {Z : Nat → Option D} {J : World → Prop} {w0 : Base} {w : World} {g : Gh} {ob : Nat → Option Ob} {id : Nat}

/-- The step's end: whatever the machine makes of the operation, it comes to 'next' at a value and a world that are left. -/
def Ends (P : Program) (J : World → Prop) (w0 : Base) (id : Nat) (g : Gh) (ob : Nat → Option Ob) (w : World) (K : SV → Option Ob → Prop) (o : Oper) (a : Act) : Prop :=
  ∀ (next : Act → World → Prop) (Q : Exit → Act → World → Prop), (∀ r nob v w', K r nob → Left J w0 id g ob w r nob v w' → next (a.put o.dst v) w') → o.wp P a w next Q

theorem ends_value {K : SV → Option Ob → Prop} {o : Oper} {a : Act} (h : ∃ r nob, K r nob ∧ ∃ u w', (execOp a.eval o).run P w = .ok (.value u) w' ∧ Left J w0 id g ob w r nob u w') : Ends P J w0 id g ob w K o a := by
  obtain ⟨r, nob, hk, u, w', hr, hl⟩ := h
  intro next Q hn
  unfold Oper.wp
  rw [hr]
  exact hn r nob u w' hk hl

theorem ends_call {K : SV → Option Ob → Prop} {o : Oper} {a : Act} {f : Nat} {vals : Array Value} (hx : (execOp a.eval o).run P w = (callFunc f vals).run P w)
    (h : CallRes P f vals w fun v w' => ∃ r nob, K r nob ∧ Left J w0 id g ob w r nob v w') : Ends P J w0 id g ob w K o a := by
  intro next Q hn
  unfold Oper.wp
  rw [hx]
  unfold CallRes at h
  split at h
  · rename_i f' args w' hr
    rw [hr]
    refine h.mono fun e w'' ⟨v, he, r, nob, hk, hl⟩ => ?_
    subst he
    exact hn r nob v w'' hk hl
  · rename_i v w' hr
    rw [hr]
    obtain ⟨r, nob, hk, hl⟩ := h
    exact hn r nob v w' hk hl
  · rename_i row args w' hr
    rw [hr]
    exact h.mono fun v w'' ⟨r, nob, hk, hl⟩ => hn r nob v w'' hk hl
  · exact h.elim

theorem ends_same {K : SV → Option Ob → Prop} {o : Oper} {a : Act} (hW : WRel J w0 ob g w) (hu : ob id = none) (h0 : g.B id = []) {s : Sem Value} (hx : execOp a.eval o = (do pure (.value (← s))))
    (h : ∃ r, K r none ∧ ∃ u, s.run P w = .ok u w ∧ SVok w g ob r u) : Ends P J w0 id g ob w K o a := by
  obtain ⟨r, hk, u, hr, hs⟩ := h
  exact ends_value ⟨r, none, hk, u, w, by rw [hx]; simp [hr], Left.same hW hu h0 hs⟩

theorem ends_made {K : SV → Option Ob → Prop} {o : Oper} {a : Act} {s : Sem Value} (hx : execOp a.eval o = (do pure (.value (← s))))
    (h : ∃ r nob, K r nob ∧ ∃ u w', s.run P w = .ok u w' ∧ Left J w0 id g ob w r nob u w') : Ends P J w0 id g ob w K o a := by
  obtain ⟨r, nob, hk, u, w', hr, hs⟩ := h
  exact ends_value ⟨r, nob, hk, u, w', by rw [hx]; simp [hr], hs⟩

theorem clCaps_sound {ρ : Operand → SV} {a : Act} (hρ : ∀ x, SVok w g ob (ρ x) (a.eval x)) : ∀ l : List Operand, SVl w g ob (clCaps (l.map ρ)) (l.map a.eval)
  | [] => rfl
  | x :: l => ⟨a.eval x, l.map a.eval, rfl, hρ x, clCaps_sound hρ l⟩

theorem parts_sound {ρ : Operand → SV} {a : Act} (hρ : ∀ x, SVok w g ob (ρ x) (a.eval x)) (parts : Array (Nat × Operand)) :
    (∀ i : Nat, ∀ k s, (parts.toList.map fun p => (p.1, ρ p.2))[i]? = some (k, s) → ∃ u, (parts.toList.map fun p => (p.1, a.eval p.2))[i]? = some (k, u) ∧ SVok w g ob s u) ∧
    (parts.toList.map fun p => (p.1, a.eval p.2)).length = (parts.toList.map fun p => (p.1, ρ p.2)).length ∧
    (parts.map fun x => (x.fst, a.eval x.snd)) = (parts.toList.map fun p => (p.1, a.eval p.2)).toArray := by
  refine ⟨fun i k s h => ?_, by simp, by apply Array.toList_inj.1; simp⟩
  simp only [List.getElem?_map, Option.map_eq_some_iff] at h ⊢
  obtain ⟨p, hp, e⟩ := h
  simp only [Prod.mk.injEq] at e
  obtain ⟨rfl, rfl⟩ := e
  exact ⟨a.eval p.2, ⟨p, hp, rfl⟩, hρ p.2⟩

theorem evNil_sound {s : SV} {v : Value} {K : SV → Prop} (hw : ∀ id o, ob id = some o → ObOK w g ob id o) (h : evNil s ob K) (hs : SVok w g ob s v) : K s ∧ ∃ ad, v = .pointer (some ad) := by
  unfold evNil at h
  split at h
  · obtain ⟨bs, hr, _⟩ := hs
    obtain ⟨ad, cs, bs', e, _⟩ := (repV_one (by rfl)).1 hr
    exact ⟨h, ad, by simpa using e⟩
  · obtain ⟨ad, cs, bs, hv, _⟩ := hs
    exact ⟨h, ad, hv⟩
  · obtain ⟨o, ho, hv⟩ := hs
    split at h
    · rename_i ho'
      rw [ho'] at ho; injection ho with ho; subst ho
      obtain rfl := hv rfl
      obtain ⟨b, cs, bs, e1, _⟩ := hw _ _ ho'
      exact ⟨h, _, e1⟩
    · exact h.elim
  · obtain ⟨o, ho, hv⟩ := hs
    split at h
    · rename_i ho'
      rw [ho'] at ho; injection ho with ho; subst ho
      obtain ⟨b, f, e1, e2, _⟩ := hv _ _ _ _ rfl
      exact ⟨h, _, e2⟩
    · exact h.elim
  · exact h.elim

theorem evP_sound (hZ : ZOK P Z) (hJ : Stab J) {ρ : Operand → SV} {o : Oper} {a : Act} {K : SV → Option Ob → Prop} (hW : WRel J w0 ob g w) (hu : ob id = none) (h0 : g.B id = []) (h1 : 1 ≤ id)
    (hρ : ∀ x, SVok w g ob (ρ x) (a.eval x)) (h : evP P Z J ob ρ id o.op K) : Ends P J w0 id g ob w K o a := by
  have hobs := hW.obs
  have hsame : ∀ {s : Sem Value}, execOp a.eval o = (do pure (.value (← s))) → (∃ r, K r none ∧ ∃ u, s.run P w = .ok u w ∧ SVok w g ob r u) → Ends P J w0 id g ob w K o a := ends_same hW hu h0
  have hmade : ∀ {s : Sem Value}, execOp a.eval o = (do pure (.value (← s))) → (∃ r nob, K r nob ∧ ∃ u w', s.run P w = .ok u w' ∧ Left J w0 id g ob w r nob u w') → Ends P J w0 id g ob w K o a := ends_made
  cases ho : o.op with
  | move x => rw [ho] at h; exact ends_value ⟨_, _, h, a.eval x, w, by simp [execOp, ho], Left.same hW hu h0 (hρ x)⟩
  | assign x => rw [ho] at h; exact ends_value ⟨_, _, h, a.eval x, w, by simp [execOp, ho], Left.same hW hu h0 (hρ x)⟩
  | pick c x y =>
    rw [ho] at h
    obtain ⟨b, hb, hk⟩ := vBool_sound h (hρ c)
    have := onBool_sound hk
    refine ends_value ⟨_, _, this, if b then a.eval x else a.eval y, w, by simp [execOp, ho, hb, asBool], Left.same hW hu h0 ?_⟩
    cases b
    · exact hρ y
    · exact hρ x
  | nilCheck x =>
    rw [ho] at h
    have h : evNil (ρ x) ob (fun r => K r none) := h
    obtain ⟨hk, ad, hv⟩ := evNil_sound hobs h (hρ x)
    exact ends_value ⟨_, _, hk, a.eval x, w, by simp [execOp, ho, hv], Left.same hW hu h0 (hρ x)⟩
  | alloc t => rw [ho] at h; exact hmade (by simp only [execOp, ho]) (evAlloc_sound hZ hW hJ hu h0 h1 h)
  | box t x => rw [ho] at h; exact hmade (by simp only [execOp, ho]) (evBox_sound hW hJ hu h0 h1 h (hρ x))
  | build t parts =>
    rw [ho] at h
    obtain ⟨q1, q2, q3⟩ := parts_sound hρ parts
    obtain ⟨r, hk, u, hr, hs⟩ := evBuild_sound hZ h q1 q2
    exact hsame (s := Instr.build t (parts.map fun x => (x.fst, a.eval x.snd))) (by simp only [execOp, ho]) ⟨r, hk, u, by rw [q3]; exact hr, hs⟩
  | buildSlice t len parts =>
    rw [ho] at h
    obtain ⟨q1, q2, q3⟩ := parts_sound hρ parts
    obtain ⟨r, nob, hk, u, w', hr, hs⟩ := evBuildSlice_sound hW hJ hu h0 h1 h q1 q2
    exact hmade (s := Instr.buildSlice t len (parts.map fun x => (x.fst, a.eval x.snd))) (by simp only [execOp, ho]) ⟨r, nob, hk, u, w', by rw [q3]; exact hr, hs⟩
  | load t p => rw [ho] at h; exact hsame (by simp only [execOp, ho]) (evLoad_sound hobs h (hρ p))
  | binOp op t x y yt =>
    rw [ho] at h
    obtain ⟨r, hk, u, hr, hd⟩ := evBin_sound (x := x) (y := y) h (hρ x) (hρ y)
    exact hsame (by simp only [execOp, ho]) ⟨_, hk, u, hr, hd _ _⟩
  | unOp op t x =>
    rw [ho] at h
    obtain ⟨r, hk, u, hr, hd⟩ := evUn_sound h (hρ x)
    exact hsame (by simp only [execOp, ho]) ⟨_, hk, u, hr, hd _ _⟩
  | convert s t x => rw [ho] at h; exact hsame (by simp only [execOp, ho]) (evConv_sound h (hρ x))
  | makeFunc fn first caps =>
    rw [ho] at h
    cases fn with
    | func f =>
      obtain ⟨hf, hk⟩ := h
      have : first = #[] := Array.eq_empty_of_size_eq_zero hf
      subst this
      refine hsame (s := Instr.makeFunc (.func f) #[] (caps.map a.eval)) (by simp [execOp, ho]) ⟨_, hk, _, rfl, caps.toList.map a.eval, ?_, clCaps_sound hρ _⟩
      congr 1
      apply Array.toList_inj.1; simp
    | _ => exact h.elim
  | makeSlice t l c => rw [ho] at h; exact hmade (by simp only [execOp, ho]) (evMake_sound hZ hW hJ hu h0 h1 h (hρ l) (hρ c))
  | slice t x lo hi mx =>
    rw [ho] at h
    cases mx with
    | some m => exact h.elim
    | none =>
      obtain ⟨r, hk, u, hr, hs⟩ := evSlice_sound (lo := lo.map a.eval) (hi := hi.map a.eval) h (hρ x) (fun s hs => by
        obtain ⟨y, hy, rfl⟩ := Option.map_eq_some_iff.1 hs
        exact ⟨a.eval y, by rw [hy]; rfl, hρ y⟩) (fun hn => by cases lo <;> simp at hn ⊢) (fun s hs => by
        obtain ⟨y, hy, rfl⟩ := Option.map_eq_some_iff.1 hs
        exact ⟨a.eval y, by rw [hy]; rfl, hρ y⟩) (fun hn => by cases hi <;> simp at hn ⊢)
      exact hsame (by simp only [execOp, ho, Option.map_none]) ⟨r, hk, u, hr, hs⟩
  | fieldAddr t x k => rw [ho] at h; exact hsame (by simp only [execOp, ho]) (evFieldAddr_sound hobs h (hρ x))
  | field t x k => rw [ho] at h; exact hsame (by simp only [execOp, ho]) (evField_sound h (hρ x))
  | indexAddr t x i =>
    rw [ho] at h
    obtain ⟨k, n, hn, h⟩ := vInt_sound h (hρ i)
    exact hsame (s := Instr.indexAt t (a.eval x) (.int k n)) (by simp only [execOp, ho, hn]) (evIdx_sound hobs h (hρ x))
  | index t x i =>
    rw [ho] at h
    obtain ⟨k, n, hn, h⟩ := vInt_sound h (hρ i)
    have hx := hρ x
    split at h
    · rename_i pr re s hs
      rw [hs] at hx
      have e := str_of hx
      obtain ⟨ht, hn0, hn1, hk⟩ := h
      have hlt : n.toNat < s.size := by omega
      have hget : s.get! n.toNat = s[n.toNat] := by
        have : s.get! n.toNat = s.data[n.toNat]! := rfl
        rw [this]
        have hlt' : n.toNat < s.data.size := hlt
        rw [getElem!_pos s.data n.toNat hlt']
        rfl
      refine hsame (s := Instr.index t (.string s) (.int k n)) (by simp only [execOp, ho, hn, e]) ⟨_, hk, .int .u8 (s.get! n.toNat).toNat, ?_, dok_int ..⟩
      simp only [Instr.index, asIntOf, pure_bind, Sem.run_bind, run_underlying (stOf_spec ht), Result.andThen_ok]
      rw [if_pos hn0, ByteArray.getElem?_lt' s n.toNat hlt, hget]
      rfl
    · exact h.elim
  | extract x k => rw [ho] at h; exact hsame (by simp only [execOp, ho]) (evExtract_sound h (hρ x))
  | call c =>
    rw [ho] at h
    obtain ⟨callee, args, argTypes⟩ := c
    cases callee with
    | builtin b =>
      cases b <;> try exact h.elim
      dsimp only [evP] at h
      split at h
      · rename_i x t hx ht
        have hx' : args = #[x] := by apply Array.toList_inj.1; rw [hx]
        have ht' : argTypes = #[t] := by apply Array.toList_inj.1; rw [ht]
        subst hx'; subst ht'
        obtain ⟨r, hk, u, hr, hd⟩ := evLen_sound (ty := o.type) hobs h (hρ x)
        exact hsame (s := Builtin.len_ #[t] o.type #[a.eval x]) (by simp [execOp, ho, resolve, invoke, builtin]) ⟨_, hk, u, hr, hd _ _⟩
      · exact h.elim
    | value f =>
      have hargs : ∀ (i : Nat) s, (args.toList.map ρ)[i]? = some s → ∃ v, (args.toList.map a.eval)[i]? = some v ∧ SVok w g ob s v := by
        intro i s hs
        simp only [List.getElem?_map, Option.map_eq_some_iff] at hs ⊢
        obtain ⟨x, hx, rfl⟩ := hs
        exact ⟨a.eval x, ⟨x, hx, rfl⟩, hρ x⟩
      have hx : ∀ fn vs, a.eval f = .func (.func fn) #[] vs → (execOp a.eval o).run P w = (callFunc fn ((args.toList.map a.eval).toArray ++ vs)).run P w := by
        intro fn vs e
        have : args.map a.eval = (args.toList.map a.eval).toArray := by apply Array.toList_inj.1; simp
        simp [execOp, ho, resolve, e, Deferred.ofValue, invoke, this]
      have hf := hρ f
      dsimp only [evP] at h
      unfold evCall at h
      split at h
      · rename_i fn caps hfn
        rw [hfn] at hf
        obtain ⟨vs, hv, hc⟩ := hf
        obtain ⟨hg, fl, y, hG, hk⟩ := h
        simp only [Bool.and_eq_true] at hg
        obtain ⟨cb, hcb⟩ := viewL_sound hobs caps hc hg.2
        obtain ⟨bs, hT, hbs⟩ := args_sound hobs (repT_of_caps _ hcb (goodL_capL ob caps hg.2)) _ (by simp) hargs hg.1
        refine ends_call (hx fn vs.toArray hv) ?_
        rw [show (args.toList.map a.eval).toArray ++ vs.toArray = (args.toList.map a.eval ++ vs).toArray by simp]
        refine (hG w _ bs hW.jj hT).mono fun v w' ⟨bs', r1, r2, r3⟩ => ?_
        obtain ⟨r, hr, hl⟩ := res_sound hW hJ hu h0 h1 hk r1 r2 r3 (fun him b hb => by
          simp only [Bool.and_eq_true] at him
          obtain ⟨him, hcn⟩ := him
          rcases hbs b hb with h | h
          · cases caps <;> simp at hcn
            have : cb = [] := by
              have e : vs = [] := hc
              subst e
              exact hcb.2
            subst this; cases h
          · exact h him)
        exact ⟨r, none, hr, hl⟩
      · rename_i pr re fn caps hfn
        rw [hfn] at hf
        obtain ⟨cb, hr, hcov, hm⟩ := hf
        obtain ⟨vs, e, hcl, hcb⟩ := (repV_one (x := .fn fn caps) rfl).1 hr
        injection e with e
        obtain ⟨hg, fl, y, hG, hk⟩ := h
        obtain ⟨bs, hT, hbs⟩ := args_sound hobs (repT_of_caps _ hcb hcl) _ (by simp) hargs hg
        refine ends_call (hx fn vs.toArray e) ?_
        rw [show (args.toList.map a.eval).toArray ++ vs.toArray = (args.toList.map a.eval ++ vs).toArray by simp]
        refine (hG w _ bs hW.jj hT).mono fun v w' ⟨bs', r1, r2, r3⟩ => ?_
        obtain ⟨r, hr, hl⟩ := res_sound hW hJ hu h0 h1 hk r1 r2 r3 (fun him b hb => by
          rw [List.flatMap_append]
          rcases hbs b hb with h | h
          · exact ⟨hm b h, List.mem_append.2 (.inl (hcov.1 b h))⟩
          · exact ⟨(h him).1, List.mem_append.2 (.inr (h him).2)⟩)
        exact ⟨r, none, hr, hl⟩
      · exact h.elim
    | invoke r m => exact h.elim
  | _ => rw [ho] at h; exact h.elim
end Go.Proofs.Ytomhkcemkapmpaa
