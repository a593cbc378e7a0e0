/- One step of a frame, whatever the operation. For every world: no condition. -/
import Derived.Test.YtomhkcemkapmpaaDl
namespace Go.Proofs.Ytomhkcemkapmpaa
open Go Go.RowKit
set_option linter.unusedVariables false
set_option linter.unusedSimpArgs false

def St.setOb (st : St) (id : Nat) (o : Ob) : St := { st with obs := (id, o) :: st.obs }
/-- An owned slice becomes data, for it is about to be laid into something. -/
def St.frzT (st : St) (t : Nat) : St :=
  match getE st.env t with
  | .own id ver => (match getO st.obs id with
    | some (.arr v pr re x _ _) => if v = ver then { st with env := (t, .d pr (id :: re) x) :: st.env, obs := (id, .frz v pr re x) :: st.obs } else st
    | some (.frz v pr re x) => if v = ver then { st with env := (t, .d pr (id :: re) x) :: st.env } else st
    | _ => st)
  | _ => st
def St.frzX (st : St) : Operand → St
  | .tmp t => st.frzT t
  | _ => st
def St.frzL (st : St) : List Operand → St
  | [] => st
  | x :: r => (st.frzX x).frzL r
def addL (y : D) (p : Bool) (r : List Nat) (p0 : Bool) (r0 : List Nat) (K : Bool → List Nat → Prop) : Prop :=
  if (y.lget 0).flat then (∀ i, i < y.llen → (y.lget i).flat = true) ∧ K p0 r0 else K (p0 && p) (r0 ++ r)
def stId : SV → Nat
  | .bx i => i
  | .bf i _ => i
  | .oa i _ _ => i
  | _ => 0
def evStore (P : Program) (t : Nat) (p x : Operand) (st : St) (K : St → Prop) : Prop :=
  match getO (st.frzX x).obs (stId ((st.frzX x).opd p)) with
  | some o => stOb ((st.frzX x).opd x) P t o ((st.frzX x).opd p) fun o' => K ((st.frzX x).setOb (stId ((st.frzX x).opd p)) o')
  | none => False
def evAppend (P : Program) (Z : Nat → Option D) (dst : Option Nat) (t : Nat) (s x : Operand) (st : St) (K : St → Prop) : Prop :=
  lstOf (getO st.obs) (st.opd x) fun pr2 re2 y =>
    match st.opd s with
    | .d _ _ .nils => appOK P Z t 0 y.llen fun e sz => (0 < y.llen → (y.lget 0).sz = sz) ∧ addL y pr2 re2 true [] fun pr re => K (st.left dst (.own st.nx 0) (some (.arr 0 pr re (.list y.llen y.lget) e sz)))
    | .own id ver => (match getO st.obs id with
      | some (.arr v pr re z e sz) => v = ver ∧ appOK P Z t z.llen y.llen fun e' sz' => e' = e ∧ sz' = sz ∧ (0 < y.llen → (y.lget 0).sz = sz) ∧
          addL y pr2 re2 pr re fun pr' re' => K ((st.setOb id (.arr (v + 1) pr' re' (z.app y) e sz)).put dst (.own id (v + 1)))
      | _ => False)
    | _ => False
def dstOK (N : Nat) : Option Nat → Prop
  | some d => d < N
  | none => True
def isPure : Op → Bool
  | .store _ _ _ => false
  | .call { callee := .builtin .append, .. } => false
  | _ => true
def frzOps : Op → List Operand
  | .box _ x => [x]
  | .build _ ps => ps.toList.map (·.2)
  | .buildSlice _ _ ps => ps.toList.map (·.2)
  | _ => []
def evStep (P : Program) (Z : Nat → Option D) (J : World → Prop) (N : Nat) (o : Oper) (st : St) (K : St → Prop) : Prop :=
  dstOK N o.dst ∧
  match o.op with
  | .store t p x => o.dst = none ∧ evStore P t p x st K
  | .call { callee := .builtin .append, args, argTypes } => (match args.toList, argTypes.toList with | [s, x], [t, t'] => t' = t ∧ evAppend P Z o.dst t s x st K | _, _ => False)
  | op => evP P Z J (getO (st.frzL (frzOps op)).obs) (st.frzL (frzOps op)).opd (st.frzL (frzOps op)).nx op fun r nob => K ((st.frzL (frzOps op)).left o.dst r nob)

section
variable {P : Program} {Z : Nat → Option D} {J : World → Prop} {w0 : Base} {w w' : World} {g g' : Gh} {N : Nat} {st : St} {a : Act} {id : Nat}

theorem getO_set (st : St) (id : Nat) (o : Ob) : getO (st.setOb id o).obs = upd (getO st.obs) id (some o) := by
  funext i
  simp only [St.setOb, getO, upd]
  by_cases h : id = i
  · simp [h]
  · simp [h, Ne.symm h]

theorem Rel.frzT (h : Rel J w0 N st g a w) (t : Nat) : Rel J w0 N (st.frzT t) g a w := by
  unfold St.frzT
  split
  case h_2 => exact h
  rename_i id ver he
  have ht := h.env t
  rw [he] at ht
  obtain ⟨o, ho, hb, hv⟩ := ht
  split
  · rename_i v pr re x e sz ho'
    rw [ho'] at ho; injection ho with ho; subst ho
    split
    case isFalse => exact h
    rename_i hve; subst hve
    have hW := h.W.frz ho'
    have hobs : getO ((id, Ob.frz v pr re x) :: st.obs) = upd (getO st.obs) id (some (.frz v pr re x)) := getO_set st id _
    have hfrz := hW.obs id (.frz v pr re x) (by simp [upd])
    refine ⟨h.size, h.defers, by rw [hobs]; exact hW, fun u => ?_, fun i hi => ?_, h.pos⟩
    · rw [hobs]
      simp only [getE]
      by_cases hu : t = u
      · subst hu
        simp only [if_true]
        rw [hv rfl]
        exact hfrz
      · simp only [hu, if_false]
        exact SVok.frz ho' _ (h.env u)
    · rw [hobs]
      have hne : i ≠ id := fun e => by subst e; have := (h.un i hi).1; rw [ho'] at this; cases this
      exact ⟨by simp only [upd, hne, if_false]; exact (h.un i hi).1, (h.un i hi).2⟩
  · rename_i v pr re x ho'
    rw [ho'] at ho; injection ho with ho; subst ho
    split
    case isFalse => exact h
    rename_i hve; subst hve
    refine ⟨h.size, h.defers, h.W, fun u => ?_, h.un, h.pos⟩
    simp only [getE]
    by_cases hu : t = u
    · subst hu
      simp only [if_true]
      rw [hv rfl]
      exact h.W.obs id _ ho'
    · simp only [hu, if_false]
      exact h.env u
  · exact h

theorem Rel.frzX (h : Rel J w0 N st g a w) (x : Operand) : Rel J w0 N (st.frzX x) g a w := by
  cases x with
  | tmp t => exact h.frzT t
  | _ => exact h
theorem Rel.frzL (h : Rel J w0 N st g a w) : ∀ l : List Operand, Rel J w0 N (st.frzL l) g a w := by
  intro l
  induction l generalizing st with
  | nil => exact h
  | cons x l ih => exact ih (h.frzX x)

theorem addL_sound {y : D} {p p0 : Bool} {r r0 : List Nat} {K : Bool → List Nat → Prop} (h : addL y p r p0 r0 K) {n sz : Nat} {f : Nat → D} (hn : y.llen = n) (hf : ∀ i, y.lget i = f i) {bf : Nat → List Nat} {ys : List Value} (hr : Row w sz n f bf ys)
    (hc : Cov g p r ((List.range n).flatMap bf)) : ∃ p' r', K p' r' ∧ ∀ g'' : Gh, (∀ i, ∃ l, (g.B i ++ l).Perm (g''.B i)) → ∀ b0, Cov g'' p0 r0 b0 → Cov g'' p' r' (b0 ++ (List.range n).flatMap bf) := by
  unfold addL at h
  split at h
  · obtain ⟨h1, hk⟩ := h
    have e0 : (List.range n).flatMap bf = [] := by
      rw [List.flatMap_eq_nil_iff]
      intro i hi
      obtain ⟨ci, a1, _⟩ := hr.2 i (List.mem_range.1 hi)
      exact a1.flat (by rw [← hf]; exact h1 i (by rw [hn]; exact List.mem_range.1 hi))
    exact ⟨_, _, hk, fun g'' _ b0 h0 => by rw [e0]; simpa using h0⟩
  · exact ⟨_, _, h, fun g'' hg b0 h0 => h0.app (hc.grow hg)⟩

theorem evAppend_sound (hZ : ZOK P Z) (hJ : Stab J) (hj0 : J w0.toWorld) (hR : Rel J w0 N st g a w) {o : Oper} {t : Nat} {s x : Operand} {K : St → Prop} (hd : dstOK N o.dst)
    (ho : o.op = .call { callee := .builtin .append, args := #[s, x], argTypes := #[t, t] }) (h : evAppend P Z o.dst t s x st K) (next : Act → World → Prop) (Q : Exit → Act → World → Prop)
    (hn : ∀ st' g' v w', K st' → Rel J w0 N st' g' (a.put o.dst v) w' → next (a.put o.dst v) w') : o.wp P a w next Q := by
  have fin : ∀ {v' : Value} {w' : World}, (Builtin.append_ #[t, t] o.type #[a.eval s, a.eval x]).run P w = .ok v' w' → next (a.put o.dst v') w' → o.wp P a w next Q := by
    intro v' w' hr hnx
    unfold Oper.wp execOp
    simp only [ho, resolve, invoke, builtin, Sem.run_bind, Sem.run_pure, Result.andThen_ok, List.map_toArray, List.map_cons, List.map_nil, hr]
    exact hnx
  unfold evAppend at h
  obtain ⟨pr2, re2, y, h, n, f, A, c, hyn, hyf, hxv, hrow⟩ := lstOf_sound hR.W h (hR.opd x)
  have hs := hR.opd s
  split at h
  · -- nil
    rename_i pr0 re0 hs'
    rw [hs'] at hs
    obtain ⟨bs0, hb0, _⟩ := hs
    have hv : a.eval s = .slice none 0 0 := by
      have := (repV_one (x := .nils) rfl).1 hb0
      obtain ⟨e, _⟩ := this; injection e
    obtain ⟨e, z, by_, he, hz, hz0, hby, hb1, hb2, hsz, hadd⟩ := h
    rw [hyn] at hb2 hsz
    simp only [hyf] at hsz
    have hu := (hR.un st.nx (Nat.le_refl _)).1
    have h0 := (hR.un st.nx (Nat.le_refl _)).2
    have key : ∃ bf ys, Row w z.sz n f bf ys ∧ (0 < n → ∃ ad, A = some ad ∧ ys.length = n * z.sz ∧ (∀ j u, ys[j]? = some u → w.cell? (ad.add j) = some u) ∧ ∀ u ∈ ys, u.oneCell' = true) ∧ (n = 0 → ys = []) ∧
        Cov g pr2 re2 ((List.range n).flatMap bf) ∧ ∀ i, i < n → ∀ c ∈ bf i, ¬ Mut g (getO st.obs) c := by
      by_cases hn0 : n = 0
      · subst hn0; exact ⟨fun _ => [], [], ⟨by simp, fun i hi => by omega⟩, fun h => by omega, fun _ => rfl, by simpa using Cov.nil g pr2 re2, fun i hi => by omega⟩
      · obtain ⟨ad, bf, ys, rfl, q1, q2, q3, q4, q5⟩ := hrow z.sz (by omega) (hsz (by omega))
        exact ⟨bf, ys, q2, fun _ => ⟨ad, rfl, q2.1, q3, q2.one q1⟩, fun h => by omega, q4, q5⟩
    obtain ⟨bf, ys, q1, q2, q3, q4, q5⟩ := key
    obtain ⟨v', w', r1, r2, r3⟩ := app_run (P := P) (ty := o.type) hZ hR.W he hz rfl hz0 hby hb1 (by simpa using hb2) (World.ownsRow_nil w w0.heap.size e z.sz) q2 q3
    refine fin (by rw [hv, hxv]; exact r1) ?_
    simp only [Nat.zero_add, List.nil_append] at r2
    obtain ⟨r3, r4⟩ := r3
    have hbl : ∀ b, v'.ownBlock = some b → w.heap.size ≤ b ∧ b < w'.heap.size := by
      intro b hb
      rcases r4 with h | ⟨b', h, h1, h2⟩
      · rw [h] at hb; cases hb
      · rw [h] at hb; injection hb with hb; subst hb; exact ⟨h1, h2⟩
    have hold : ∀ k, k < w.heap.size → w'.heap[k]? = w.heap[k]? := fun k hk => r3.block k hk (by simp [Value.ownBlock])
    obtain ⟨pr, re, hk, hcov⟩ := addL_sound hadd hyn hyf q1 q4
    let g' := g.put st.nx v'.ownBlock.toList v'
    have hE : Ext st.nx g w g' w' := ⟨hold, r3.size, fun i hi => by simp [g', Gh.put, hi], fun i hi => by simp [g', Gh.put, hi], fun b hb => by
      simp only [g', Gh.put, if_true, Option.mem_toList] at hb
      exact (hbl b hb).1⟩
    have hnew : ∀ i, i < n → ∀ c ∈ bf i, c < w.heap.size := fun i hi c hc => by
      obtain ⟨ci, a1, _⟩ := q1.2 i hi
      exact a1.lt c hc
    have hown : OwnR w' g' (upd (getO st.obs) st.nx (some (.arr 0 pr re (.list y.llen y.lget) e z.sz))) st.nx w0.heap.size pr re n f e z.sz (g'.H st.nx) bf ys :=
      ⟨by simpa [g', Gh.put] using r2, q1.agr (fun i hi b hb => hold b (hnew i hi b hb)), by simpa using hcov g' (hE.grow h0) [] (Cov.nil _ _ _), fun i hi c hc hm => q5 i hi c hc (hE.mut hu (hnew i hi c hc) hm),
        fun b hb => by simpa [g', Gh.put] using hb⟩
    have hL : Left J w0 st.nx g (getO st.obs) w (.own st.nx 0) (some (.arr 0 pr re (.list y.llen y.lget) e z.sz)) v' w' := by
      refine ⟨g', hE, hR.W.ext hE hu h0 hR.pos ?_ (hJ _ _ hold r3.size hR.W.jj) ?_ ?_ ?_, ?_⟩
      · exact ⟨r3.os.trans hR.W.below.os, r3.tape.trans hR.W.below.tape, r3.output.trans hR.W.below.output, Nat.le_trans hR.W.below.size r3.size, fun k hk => (hold k (Nat.lt_of_lt_of_le hk hR.W.below.size)).trans (hR.W.below.block k hk)⟩
      · simp only [g', Gh.put, if_true]; cases v'.ownBlock <;> simp
      · intro b hb
        simp only [g', Gh.put, if_true, Option.mem_toList] at hb
        exact (hbl b hb).2
      · intro o ho'; injection ho' with ho'; subst ho'
        have e1 : y.llen = n := hyn
        have e2 : y.lget = f := funext hyf
        rw [e1, e2] at hown ⊢
        exact obOK_of_own hz0 hown
      · exact ⟨.arr 0 pr re (.list y.llen y.lget) e z.sz, by simp [upd], fun u hu' => Nat.zero_le _, fun _ => by simp [g', Gh.put]⟩
    obtain ⟨g2, hR2⟩ := hR.left (o := o) (r := .own st.nx 0) (fun t ht => by rw [ht] at hd; exact hd) hL
    exact hn _ g2 v' w' hk hR2
  · -- owned
    rename_i id ver hs'
    rw [hs'] at hs
    obtain ⟨q, hq, hb, hv⟩ := hs
    split at h
    case h_2 => exact h.elim
    rename_i ver' pr re z e sz ho'
    rw [ho'] at hq; injection hq with hq; subst hq
    obtain ⟨rfl, e', zd, by_, he, hz, hz0, hby, hb1, hb2, rfl, rfl, hsz, hadd⟩ := h
    have hvv := hv rfl
    obtain ⟨n0, f0, bf0, xs0, rfl, hs0, hO⟩ := own_of_obOK hR.W ho'
    rw [show (D.list n0 f0).llen = n0 from rfl, hyn] at hb2
    rw [hyn] at hsz
    simp only [hyf] at hsz
    have key : ∃ bf ys, Row w zd.sz n f bf ys ∧ (0 < n → ∃ ad, A = some ad ∧ ys.length = n * zd.sz ∧ (∀ j u, ys[j]? = some u → w.cell? (ad.add j) = some u) ∧ ∀ u ∈ ys, u.oneCell' = true) ∧ (n = 0 → ys = []) ∧
        Cov g pr2 re2 ((List.range n).flatMap bf) ∧ ∀ i, i < n → ∀ c ∈ bf i, ¬ Mut g (getO st.obs) c := by
      by_cases hn0 : n = 0
      · subst hn0; exact ⟨fun _ => [], [], ⟨by simp, fun i hi => by omega⟩, fun h => by omega, fun _ => rfl, by simpa using Cov.nil g pr2 re2, fun i hi => by omega⟩
      · obtain ⟨ad, bf, ys, rfl, q1, q2, q3, q4, q5⟩ := hrow zd.sz (by omega) (hsz (by omega))
        exact ⟨bf, ys, q2, fun _ => ⟨ad, rfl, q2.1, q3, q2.one q1⟩, fun h => by omega, q4, q5⟩
    obtain ⟨bf, ys, q1, q2, q3, q4, q5⟩ := key
    obtain ⟨v', w', r1, r2, r3, r4⟩ := app_run (P := P) (ty := o.type) hZ hR.W he hz rfl hz0 hby hb1 hb2 hO.own q2 q3
    refine fin (by rw [hvv, hxv]; exact r1) ?_
    obtain ⟨pr', re', hk, hcov⟩ := addL_sound hadd hyn hyf q1 q4
    have hid1 : 1 ≤ id := by
      rcases Nat.eq_zero_or_pos id with z | z
      · subst z; rw [hR.W.ob0] at ho'; cases ho'
      · exact z
    -- the blocks: the old ones, and the new one where there is one
    obtain ⟨l, hl1, hl2, hl3⟩ : ∃ l : List Nat, l.Nodup ∧ (∀ b ∈ l, w.heap.size ≤ b ∧ b < w'.heap.size) ∧ ∀ b, v'.ownBlock = some b → b ∈ g.B id ++ l := by
      rcases r4 with h | ⟨b, h, h1, h2⟩
      · exact ⟨[], List.nodup_nil, by simp, fun b hb => by rw [h] at hb; simpa using hO.blk b hb⟩
      · exact ⟨[b], by simp, fun b' hb' => by simp at hb'; subst hb'; exact ⟨h1, h2⟩, fun b' hb' => by rw [h] at hb'; injection hb' with hb'; subst hb'; simp⟩
    let g' := g.put id (g.B id ++ l) v'
    have hM : Mod id g w g' w' := ⟨fun k hk hkn => r3.block k hk (fun e => hkn (hO.blk k e.symm)), r3.size, fun i hi => by simp [g', Gh.put, hi], fun i hi => by simp [g', Gh.put, hi],
      ⟨l, by simp [g', Gh.put], hl1, hl2⟩⟩
    have nold : ∀ c, ¬ Mut g (getO st.obs) c → c ∉ g.B id := fun c hc hm => hc ⟨id, _, ho', rfl, hm⟩
    have lt1 : ∀ i, i < n0 → ∀ c ∈ bf0 i, c < w.heap.size := fun i hi c hc => by
      obtain ⟨ci, a1, _⟩ := hO.row.2 i hi
      exact a1.lt c hc
    have lt2 : ∀ i, i < n → ∀ c ∈ bf i, c < w.heap.size := fun i hi c hc => by
      obtain ⟨ci, a1, _⟩ := q1.2 i hi
      exact a1.lt c hc
    let o' : Ob := .arr (ver' + 1) pr' re' ((D.list n0 f0).app y) e' zd.sz
    have hown : OwnR w' g' (upd (getO st.obs) id (some o')) id w0.heap.size pr' re' (n0 + n) (fun i => if i < n0 then f0 i else f (i - n0)) e' zd.sz v' (fun i => if i < n0 then bf0 i else bf (i - n0)) (xs0 ++ ys) := by
      refine app_own (pr := pr) (re := re) hO.row (hO.cov.grow hM.growB) (fun i hi c hc hm => hO.nomut i hi c hc (hM.mut ho' rfl (lt1 i hi c hc) hm)) q1 (hcov g' hM.growB) (fun i hi c hc hm => q5 i hi c hc (hM.mut ho' rfl (lt2 i hi c hc) hm))
        (fun i hi b hb => hM.heap b (lt1 i hi b hb) (nold b (hO.nomut i hi b hb))) (fun i hi b hb => hM.heap b (lt2 i hi b hb) (nold b (q5 i hi b hb))) r2 (fun b hb => by simpa [g', Gh.put] using hl3 b hb)
    have hobok : ObOK w' g' (upd (getO st.obs) id (some o')) id o' := by
      have : (D.list n0 f0).app y = .list (n0 + n) (fun i => if i < n0 then f0 i else f (i - n0)) := by
        unfold D.app
        rw [show (D.list n0 f0).llen = n0 from rfl, hyn]
        congr 1
        funext i
        rw [hyf]
        rfl
      show ObOK w' g' _ id (.arr (ver' + 1) pr' re' ((D.list n0 f0).app y) e' zd.sz)
      have hH : g'.H id = v' := by simp [g', Gh.put]
      rw [← hH] at hown
      have h2 := obOK_of_own (ver := ver' + 1) hz0 hown
      rw [← this] at h2
      exact h2
    have hG : Goes (g'.H id = g.H id) (.arr ver' pr re (.list n0 f0) e' zd.sz) o' := ⟨rfl, rfl, .inl rfl⟩
    have hW' := hR.W.mod (o' := o') hJ hM ho' rfl r3.os r3.tape r3.output hj0 hobok
    have hobs := getO_set st id o'
    refine hn _ g' v' w' hk ⟨?_, ?_, ?_, fun t => ?_, fun i hi => ?_, by cases hdst : o.dst <;> exact hR.pos⟩
    · cases hdst : o.dst <;> simp [Act.put, hR.size]
    · cases hdst : o.dst <;> simp [Act.put, hR.defers]
    · cases hdst : o.dst <;> (simp only [St.put]; rw [hobs]; exact hW')
    · have old : SVok w' g' (upd (getO st.obs) id (some o')) (getE st.env t) (a.tmps.getD t undef) := SVok.mod hM ho' hG _ (hR.env t)
      cases hdst : o.dst with
      | none => simp only [St.put, Act.put]; rw [hobs]; exact old
      | some d =>
        simp only [St.put, Act.put]
        rw [hobs, getD_set _ _ _ _ (by rw [hR.size]; rw [hdst] at hd; exact hd)]
        simp only [getE]
        by_cases e : d = t
        · simp only [e, if_true]
          exact ⟨o', by simp [upd], fun u hu => by simp [o', Ob.ver?] at hu; omega, fun _ => by simp [g', Gh.put]⟩
        · simp only [e, if_false]; exact old
    · have hne : i ≠ id := fun e => by
        subst e
        have hi' : st.nx ≤ i := by cases hdst : o.dst <;> (rw [hdst] at hi; exact hi)
        have := (hR.un i hi').1; rw [ho'] at this; cases this
      have hi' : st.nx ≤ i := by cases hdst : o.dst <;> (rw [hdst] at hi; exact hi)
      refine ⟨?_, ?_⟩
      · cases hdst : o.dst <;> (simp only [St.put]; rw [hobs]; simp only [upd, hne, if_false]; exact (hR.un i hi').1)
      · simp only [g', Gh.put, hne, if_false]; exact (hR.un i hi').2
  · exact h.elim

theorem evStore_sound (hJ : Stab J) (hj0 : J w0.toWorld) (hR : Rel J w0 N st g a w) {o : Oper} {t : Nat} {p x : Operand} {K : St → Prop} (hd : o.dst = none) (ho : o.op = .store t p x) (h : evStore P t p x st K)
    (next : Act → World → Prop) (Q : Exit → Act → World → Prop) (hn : ∀ st' g' v w', K st' → Rel J w0 N st' g' (a.put o.dst v) w' → next (a.put o.dst v) w') : o.wp P a w next Q := by
  have hR1 := hR.frzX x
  unfold evStore at h
  split at h
  case h_2 => exact h.elim
  rename_i q hq
  obtain ⟨o', hk, hG, w', hrun, hW, hM⟩ := stOb_sound hR1.W hJ hj0 (by generalize (st.frzX x).opd p = s; cases s <;> rfl) hq h (hR1.opd x) (hR1.opd p)
  unfold Oper.wp
  have : (execOp a.eval o).run P w = .ok .skip w' := by simp [execOp, ho, hrun]
  rw [this]
  show next (a.put o.dst undef) w'
  refine hn _ g undef w' hk ?_
  have hobs := getO_set (st.frzX x) (stId ((st.frzX x).opd p)) o'
  rw [hd]
  refine ⟨hR1.size, hR1.defers, by rw [hobs]; exact hW, fun t => ?_, fun i hi => ?_, hR1.pos⟩
  · rw [hobs]
    exact SVok.mod hM hq hG _ (hR1.env t)
  · rw [hobs]
    have hne : i ≠ stId ((st.frzX x).opd p) := fun e => by
      have := (hR1.un i hi).1
      rw [e, hq] at this; cases this
    exact ⟨by simp only [upd, hne, if_false]; exact (hR1.un i hi).1, (hR1.un i hi).2⟩

theorem evStep_sound (hZ : ZOK P Z) (hJ : Stab J) (hj0 : J w0.toWorld) (hR : Rel J w0 N st g a w) {o : Oper} {K : St → Prop} (h : evStep P Z J N o st K)
    (next : Act → World → Prop) (Q : Exit → Act → World → Prop) (hn : ∀ st' g' v w', K st' → Rel J w0 N st' g' (a.put o.dst v) w' → next (a.put o.dst v) w') : o.wp P a w next Q := by
  obtain ⟨hd, h⟩ := h
  split at h
  · rename_i t p x ho
    exact evStore_sound hJ hj0 hR h.1 ho h.2 next Q hn
  · rename_i args argTypes ho
    split at h
    · rename_i s x t t' ha hty
      obtain ⟨rfl, h⟩ := h
      have ha' : args = #[s, x] := by apply Array.toList_inj.1; rw [ha]
      have ht' : argTypes = #[t', t'] := by apply Array.toList_inj.1; rw [hty]
      subst ha'; subst ht'
      exact evAppend_sound hZ hJ hj0 hR hd ho h next Q hn
    · exact h.elim
  · have hR1 := hR.frzL (frzOps o.op)
    have hu := hR1.un _ (Nat.le_refl _)
    refine evP_sound hZ hJ hR1.W hu.1 hu.2 hR1.pos (fun x => hR1.opd x) h next Q fun r nob v w' hk hl => ?_
    obtain ⟨g', hR2⟩ := hR1.left (o := o) (fun t ht => by rw [ht] at hd; exact hd) hl
    exact hn _ g' v w' hk hR2
end
end Go.Proofs.Ytomhkcemkapmpaa
