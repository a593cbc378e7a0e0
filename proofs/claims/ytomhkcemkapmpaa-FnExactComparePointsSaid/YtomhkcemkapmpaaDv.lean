/- A region that draws its order: the rule itself. For every world: no condition. -/
import Derived.Test.YtomhkcemkapmpaaDu
namespace Go.Proofs.Ytomhkcemkapmpaa
open Go Go.RowKit
set_option linter.unusedVariables false
set_option linter.unusedSimpArgs false

section
variable {P : Program} {Z : Nat → Option D} {J : World → Prop} {N : Nat} {ops : Array Oper} {zs : List (List Nat × Oper)} {K : St → Prop} {w0 : Base} {listed : Array Bool} {a : Act} {w : World}
  {pre l1 l2 : List (List Nat × Oper)} {tr : List (SV × Option Ob)} {E : Nat → SV} {O : Nat → Option Ob} {nx0 : Nat} {st' : St} {g : Gh}

theorem mask_ok {ob : Nat → Option Ob} {E' : Nat → SV} {o : Oper} (h : ∀ t ∈ o.looksAt ops, SVok w g ob (E' t) (a.tmps.getD t undef)) (x : Operand) :
    SVok w g ob (opdE (fun t => if t ∈ o.looksAt ops then E' t else .junk) x) (a.eval x) := by
  cases x with
  | tmp t => simp only [opdE]; split
             · rename_i ht; exact h t ht
             · trivial
  | const v => exact const_ok _ v
  | func f => exact ⟨[], rfl, rfl⟩
  | global g => trivial
theorem mask_eq {E' : Nat → SV} {o : Oper} : ∀ x ∈ o.op.operands.toList, opdE E' x = opdE (fun t => if t ∈ o.looksAt ops then E' t else .junk) x := by
  intro x hx
  cases x with
  | tmp t =>
    simp only [opdE]
    rw [if_pos]
    unfold Oper.looksAt
    refine List.mem_append.2 (.inl (List.mem_filterMap.2 ⟨.tmp t, hx, rfl⟩))
  | _ => rfl

abbrev ddOf (ops : Array Oper) : Nat → Option Nat := fun j => (ops[j]?).bind (·.dst)

theorem guard_mem {o : Oper} {j : Nat} {b : Bool} {t : Nat} (hg : o.guard = some (j, b)) (ht : ddOf ops j = some t) : t ∈ o.looksAt ops := by
  unfold Oper.looksAt
  refine List.mem_append.2 (.inr ?_)
  rw [hg]
  show t ∈ (ddOf ops j).toList
  rw [ht]; exact List.mem_cons_self ..

theorem draw_main (hZ : ZOK P Z) (hJ : Stab J) (hj0 : J w0.toWorld) (hok : drawOK ops (ancT [] ops.toList) = true) (hzs : zs.map (·.2) = ops.toList) (hza : ∀ (i : Nat) p, zs[i]? = some p → p.1 = (ancT [] ops.toList).getD i [])
    {Q : Exit → Act → World → Prop} (hQ : ∀ st' g' a' w', K st' → Rel J w0 N st' g' a' w' → Q .normal a' w') :
    ∀ (fuel : Nat) (listed : Array Bool) (a : Act) (w : World) (pre l1 l2 : List (List Nat × Oper)) (tr : List (SV × Option Ob)) (E : Nat → SV) (O : Nat → Option Ob) (nx0 : Nat) (st' : St) (g : Gh),
      SegI P Z J N (ddOf ops) ops zs K w0 listed a w pre l1 l2 tr E O nx0 st' g → cnt listed ops.size ≤ fuel → wpAny P .any ops Q fuel listed a w := by
  have hlen : zs.length = ops.size := by rw [← Array.length_toList, ← hzs, List.length_map]
  have hop : ∀ (i : Nat) p, zs[i]? = some p → ops[i]? = some p.2 := fun i p h => by
    have : (zs.map (·.2))[i]? = some p.2 := by rw [List.getElem?_map, h]; rfl
    rw [hzs] at this; simpa using this
  have hop' : ∀ (i : Nat) o, ops[i]? = some o → ∃ anc, zs[i]? = some (anc, o) := fun i o h => by
    have : (zs.map (·.2))[i]? = some o := by rw [hzs]; simpa using h
    rw [List.getElem?_map] at this
    obtain ⟨p, hp, rfl⟩ := Option.map_eq_some_iff.1 this
    exact ⟨p.1, hp⟩
  -- all done
  have fin : ∀ {listed : Array Bool} {a : Act} {w : World} {pre l1 l2 : List (List Nat × Oper)} {tr : List (SV × Option Ob)} {E : Nat → SV} {O : Nat → Option Ob} {nx0 : Nat} {st' : St} {g : Gh},
      SegI P Z J N (ddOf ops) ops zs K w0 listed a w pre l1 l2 tr E O nx0 st' g → (∀ k, k < ops.size → SL listed k = true) → Q .normal a w := by
    intro listed a w pre l1 l2 tr E O nx0 st' g h hall
    have hl : pre.length + (l1.length + l2.length) = ops.size := by rw [← hlen, h.hz]; simp
    have hR := h.atEnd (fun k hk => hall k (by omega))
    have hs := h.stop
    cases l2 with
    | nil =>
      have e : pre.length + l1.length - pre.length = l1.length := by omega
      simp only [Stop, e] at hs
      exact hQ _ _ _ _ hs hR
    | cons p l3 =>
      have h1 := hall (pre.length + l1.length) (by simp at hl; omega)
      rw [h.hi _ (Nat.le_refl _)] at h1; cases h1
  -- nothing is ready: all is done
  have done : ∀ {listed : Array Bool}, listed.size = ops.size → Region.ready .any ops listed = [] → ∀ k, k < ops.size → SL listed k = true := by
    intro listed hsz hr k
    induction k using Nat.strongRecOn with
    | _ k ih =>
      intro hk
      cases hs : SL listed k
      · have hmem : k ∈ Region.ready .any ops listed := by
          refine mem_ready.2 ⟨by rw [getD_tf (by omega) true false]; exact hs, ops[k], by simp [hk], fun e he hb => ?_⟩
          have hlt := back_of hok (j := k) (y := ops[k]) (by simp [hk]) e.on (mem_dirs.2 ⟨e, he, hb, rfl⟩)
          exact ih e.on hlt (by omega)
        rw [hr] at hmem; cases hmem
      · rfl
  intro fuel
  induction fuel with
  | zero =>
    intro listed a w pre l1 l2 tr E O nx0 st' g h hc
    have hall : ∀ k, k < ops.size → SL listed k = true := fun k hk => by
      cases hs : SL listed k
      · have := cnt_pos (listed := listed) (i := k) (by rw [getD_tf (by rw [h.lsz]; exact hk) true false]; exact hs) ops.size hk
        omega
      · rfl
    refine ⟨?_, fin h hall⟩
    cases hr : Region.ready .any ops listed with
    | nil => rfl
    | cons i r =>
      obtain ⟨h0, o, ho, _⟩ := mem_ready.1 (show i ∈ Region.ready .any ops listed by rw [hr]; exact List.mem_cons_self ..)
      have hi := (Array.getElem?_eq_some_iff.1 ho).1
      have := hall i hi
      unfold SL at this
      rw [getD_tf (by rw [h.lsz]; exact hi) false true, h0] at this; cases this
  | succ fuel ih =>
    intro listed a w pre l1 l2 tr E O nx0 st' g h hc
    refine ⟨fun hr => fin h (done h.lsz hr), fun i hr => ?_⟩
    obtain ⟨h0, o, ho, hdeps⟩ := mem_ready.1 hr
    have hin := (Array.getElem?_eq_some_iff.1 ho).1
    have hil : i < listed.size := by rw [h.lsz]; exact hin
    have hSi : SL listed i = false := by unfold SL; rw [getD_tf hil false true]; exact h0
    have hdirs : ∀ k ∈ dirs o, SL listed k = true := fun k hk => by
      obtain ⟨e, he, hb, rfl⟩ := mem_dirs.1 hk
      exact hdeps e he hb
    have hanc := anc_done h.down ho hdirs
    have hcnt : cnt (listed.setIfInBounds i true) ops.size ≤ fuel := by
      rw [cnt_set hil h0, if_pos hin]; omega
    have hdown' : Down ops.toList (fun k => SL (listed.setIfInBounds i true) k = true) := by
      intro k q hq hk x hx
      simp only [SL_set hil] at hk ⊢
      by_cases e : x = i
      · simp [e]
      · rw [if_neg e]
        by_cases e2 : k = i
        · subst e2
          have : q = o := by have : ops[k]? = some q := by simpa using hq
                             rw [ho] at this; injection this with this; exact this.symm
          subst this
          exact hdirs x hx
        · rw [if_neg e2] at hk
          exact h.down k q hq hk x hx
    have hpre : pre.length ≤ i := by
      rcases Nat.lt_or_ge i pre.length with hlt | hge
      · have := h.lo i hlt; rw [hSi] at this; cases this
      · exact hge
    obtain ⟨anc, hzi⟩ := hop' i o ho
    have hAi : anc = (ancT [] ops.toList).getD i [] := hza i _ hzi
    -- an executed operation has its ancestors behind it
    have hexec : ∀ k q, ops[k]? = some q → SL listed k = true → ∀ x ∈ (ancT [] ops.toList).getD k [], SL listed x = true := fun k q hq hk => anc_done h.down hq (h.down k q (by simpa using hq) hk)
    unfold wpOp
    simp only [ho]
    by_cases hseg : i < pre.length + l1.length
    · -- one of the stretch
      obtain ⟨m, rfl⟩ : ∃ m, i = pre.length + m := ⟨i - pre.length, by omega⟩
      have hm : m < l1.length := by omega
      have hl1 : l1[m]? = some (anc, o) := by
        rw [h.hz, List.getElem?_append_right (by omega), List.getElem?_append_left (by omega)] at hzi
        rw [← hzi]; congr 1; omega
      obtain ⟨r, nob, htr, hF⟩ := fact_at l1 tr pre.length E O m anc o h.tf hl1
      have hzk : ∀ k p, l1[k]? = some p → ops[pre.length + k]? = some p.2 := fun k p hk => by
        refine hop _ p ?_
        rw [h.hz, List.getElem?_append_right (by omega), List.getElem?_append_left (by have := (List.getElem?_eq_some_iff.1 hk).1; omega), ← hk]; congr 1; omega
      -- what it reads
      have hread : ∀ t ∈ o.looksAt ops, dynE (SL listed) pre.length l1 tr E t = endE (l1.take m) (tr.take m) E t := by
        intro t ht
        have := dynE_at (SL listed) (pre.length + m) t l1 tr pre.length E E h.tl rfl (fun k p hk hp => by
          have hq := hzk k p hk
          refine ⟨fun hlt => hanc _ (clash_of hok hlt hq ho (.inr (.inr ?_))), fun hge => ?_⟩
          · cases hap : p.2.apart ops o
            · rfl
            · exact absurd ht ((Oper.apart_spec hap).1 t hp)
          · rcases Nat.eq_or_lt_of_le hge with e | hlt
            · rw [← e]; exact hSi
            · cases hs : SL listed (pre.length + k)
              · rfl
              · have := hexec _ _ hq hs _ (clash_of hok hlt ho hq (.inr (.inr (by
                  cases hap : o.apart ops p.2
                  · rfl
                  · exact absurd ht ((Oper.apart_spec hap).2.2 t hp)))))
                rw [hSi] at this; cases this)
        rw [show pre.length + m - pre.length = m by omega] at this
        exact this
      have hval : ∀ t ∈ o.looksAt ops, SVok w g (obD (SL listed) pre.length nx0 tr O) (endE (l1.take m) (tr.take m) E t) (a.tmps.getD t undef) := fun t ht => by
        rw [← hread t ht]; exact h.env t
      obtain ⟨heff, hd, hcase⟩ := hF
      have hwant : ∀ b, GOK (ddOf ops) (endE (l1.take m) (tr.take m) E) o b → Region.wanted o (yielded ops a.tmps) = b := by
        intro b hb
        unfold GOK at hb
        cases hg : o.guard with
        | none => rw [hg] at hb; simp only at hb; subst hb; simp [Region.wanted, hg]
        | some q =>
          obtain ⟨j, want⟩ := q
          rw [hg] at hb
          obtain ⟨t, v, ht, hv, hb⟩ := hb
          have hy := yielded_of ht (hv _ _ _ _ (hval t (guard_mem hg ht)))
          simp only [Region.wanted, hg, hy]
          rw [← hb]
          cases v <;> cases want <;> rfl
      have hob0 : obD (SL listed) pre.length nx0 tr O (nx0 + m) = none := by
        simp only [obD]
        rw [if_neg (by omega), if_neg]
        rw [show nx0 + m - nx0 = m by omega, hSi]; simp
      have hB0 : g.B (nx0 + m) = [] := h.unB _ (by omega) (by rw [show nx0 + m - nx0 = m by omega]; exact hSi)
      have hNB : NBt tr m = nob := by unfold NBt; rw [List.getD_eq_getElem?_getD, htr]; rfl
      have hobS : obD (SL (listed.setIfInBounds (pre.length + m) true)) pre.length nx0 tr O = upd (obD (SL listed) pre.length nx0 tr O) (nx0 + m) nob := by
        funext j
        simp only [obD, upd]
        by_cases hj : j < nx0
        · rw [if_pos hj, if_neg (by omega), if_pos hj]
        · rw [if_neg hj, if_neg hj, SL_set hil]
          by_cases e : j = nx0 + m
          · subst e
            rw [if_pos rfl, show nx0 + m - nx0 = m by omega, if_pos rfl, if_pos rfl]; exact hNB
          · rw [if_neg e, if_neg (show ¬ pre.length + (j - nx0) = pre.length + m by omega)]
      -- the next state
      have next : ∀ (g' : Gh) (v : Value) (w' : World), Ext (nx0 + m) g w g' w' → WRel J w0 (upd (obD (SL listed) pre.length nx0 tr O) (nx0 + m) nob) g' w' → SVok w' g' (upd (obD (SL listed) pre.length nx0 tr O) (nx0 + m) nob) r v →
          wpAny P .any ops Q fuel (listed.setIfInBounds (pre.length + m) true) (a.put o.dst v) w' := by
        intro g' v w' hE hW' hs
        refine ih _ _ _ pre l1 l2 tr E O nx0 st' g' ?_ hcnt
        refine ⟨h.hz, h.tf, h.tl, h.eE, h.eO, h.stop, by simp [h.lsz], fun k hk => ?_, fun k hk => ?_, hdown', h.nx1, h.O0, ?_, ?_, by rw [hobS]; exact hW', fun t => ?_, fun j hj hsj => ?_⟩
        · rw [SL_set hil]; split
          · rfl
          · exact h.lo k hk
        · rw [SL_set hil, if_neg (by omega)]; exact h.hi k hk
        · cases hdst : o.dst <;> simp [Act.put, h.asz]
        · cases hdst : o.dst <;> simp [Act.put, h.dfr]
        · rw [hobS]
          have hstep := dynE_step (SL listed) (SL (listed.setIfInBounds (pre.length + m) true)) (pre.length + m) t (SL_set hil) hSi anc o r nob l1 tr pre.length E E (by omega)
            (by rw [show pre.length + m - pre.length = m by omega]; exact hl1) (by rw [show pre.length + m - pre.length = m by omega]; exact htr) rfl (fun hdt k p hlt hk hp => by
              have hq := hzk k p hk
              cases hs : SL listed (pre.length + k)
              · rfl
              · have := hexec _ _ hq hs _ (clash_of hok hlt ho hq (.inr (.inr (by
                  cases hap : o.apart ops p.2
                  · rfl
                  · exact absurd hp ((Oper.apart_spec hap).2.1 t hdt)))))
                rw [hSi] at this; cases this)
          rw [hstep]
          have old : SVok w' g' (upd (obD (SL listed) pre.length nx0 tr O) (nx0 + m) nob) (dynE (SL listed) pre.length l1 tr E t) (a.tmps.getD t undef) := SVok.ext hE hob0 hB0 _ (h.env t)
          cases hdst : o.dst with
          | none => simp only [Act.put]; rw [if_neg (by simp)]; exact old
          | some d =>
            simp only [Act.put, Option.some.injEq]
            rw [getD_set _ _ _ _ (by rw [h.asz]; rw [hdst] at hd; exact hd)]
            split
            · exact hs
            · exact old
        · rw [SL_set hil] at hsj
          split at hsj
          · cases hsj
          · rename_i hne
            rw [hE.B j (by omega)]
            exact h.unB j hj hsj
      rcases hcase with ⟨hG, E', hE', hall⟩ | ⟨hG, rfl, rfl⟩
      · rw [if_pos (hwant _ hG)]
        refine .inl ?_
        have hsub : Sub (obR anc pre.length nx0 (endO pre.length nx0 pre.length (tr.take m) O)) (obD (SL listed) pre.length nx0 tr O) := by
          intro j q hq
          unfold obR at hq
          rw [endO_at _ _ _ _ _ _ (Nat.le_refl _)] at hq
          simp only [Nat.sub_self, Nat.add_zero, List.length_take] at hq
          unfold obD
          by_cases hj : j < nx0
          · rw [if_pos hj, if_neg (by omega)] at hq; rw [if_pos hj]; exact hq
          · rw [if_neg hj] at hq ⊢
            split at hq
            · rename_i hc
              have hx : SL listed (pre.length + (j - nx0)) = true := hanc _ (by rw [← hAi]; simpa using hc)
              rw [if_pos hx]
              split at hq
              · rename_i hb
                have : NBt (tr.take m) (j - nx0) = NBt tr (j - nx0) := by
                  unfold NBt
                  rw [List.getD_eq_getElem?_getD, List.getD_eq_getElem?_getD, List.getElem?_take, if_pos (by omega)]
                rw [this] at hq; exact hq
              · rw [h.O0 j (by omega)] at hq; cases hq
            · cases hq
        have hev := hall (obD (SL listed) pre.length nx0 tr O) (fun r' nob' => r' = r ∧ nob' = nob) hsub ⟨rfl, rfl⟩
        rw [show pre.length + m - pre.length = m by omega] at hev
        have hev := evP_rho (mask_eq (ops := ops)) hev
        refine evP_sound hZ hJ h.W hob0 hB0 (by have := h.nx1; omega) (mask_ok (ops := ops) (fun t ht => hE' t _ _ _ _ (hval t ht))) hev _ _ fun r' nob' v w' hk hl => ?_
        obtain ⟨rfl, rfl⟩ := hk
        obtain ⟨g', q1, q2, q3⟩ := hl
        exact next g' v w' q1 q2 q3
      · rw [if_neg (by rw [hwant _ hG]; simp)]
        exact next g undef w (ext_same hB0) (by rw [upd_none hob0]; exact h.W) trivial
    · -- the effect behind it
      have hl : pre.length + (l1.length + l2.length) = ops.size := by rw [← hlen, h.hz]; simp
      have hs := h.stop
      cases l2 with
      | nil => simp at hl; omega
      | cons p l3 =>
        obtain ⟨ancb, b⟩ := p
        obtain ⟨heff, hg, hev⟩ := hs
        have hze : zs[pre.length + l1.length]? = some (ancb, b) := by
          rw [h.hz, List.getElem?_append_right (by omega), List.getElem?_append_right (by omega)]
          simp
        have hbe := hop _ _ hze
        have hie : i = pre.length + l1.length := by
          rcases Nat.lt_or_ge (pre.length + l1.length) i with hlt | hge
          · have := hanc _ (clash_of hok hlt hbe ho (.inl heff))
            rw [h.hi _ (Nat.le_refl _)] at this; cases this
          · omega
        subst hie
        rw [ho] at hbe
        injection hbe with hbe; subst hbe
        have hall : ∀ k, k < pre.length + l1.length → SL listed k = true := fun k hk => by
          have : ∃ x, ops[k]? = some x := ⟨ops[k], by simp [show k < ops.size by omega]⟩
          obtain ⟨x, hx⟩ := this
          exact hanc _ (clash_of hok hk hx ho (.inr (.inl heff)))
        have hR := h.atEnd hall
        rw [if_pos (by simp [Region.wanted, hg])]
        refine .inl ?_
        have e : pre.length + l1.length - pre.length = l1.length := by omega
        rw [e] at hev
        refine evStep_sound hZ hJ hj0 hR hev _ _ fun st2 g2 v w2 hk hR2 => ?_
        have hpl : (pre ++ (l1 ++ [(ancb, o)])).length = pre.length + l1.length + 1 := by simp; omega
        obtain ⟨m1, m2, tr2, E2, O2, nx2, st3, hI⟩ := segI_start (zs := zs) (ops := ops) (listed := listed.setIfInBounds (pre.length + l1.length) true) (pre := pre ++ (l1 ++ [(ancb, o)])) (l2 := l3) hR2 (by rw [hpl]; exact hk)
          (by rw [h.hz]; simp) (by simp [h.lsz]) (fun k => by
            rw [hpl, SL_set hil]
            split
            · rename_i e; exact ⟨fun _ => by omega, fun _ => rfl⟩
            · rename_i e
              refine ⟨fun hs => ?_, fun hlt => hall k (by omega)⟩
              rcases Nat.lt_or_ge k (pre.length + l1.length) with h1 | h1
              · omega
              · rw [h.hi k h1] at hs; cases hs) hdown'
        exact ih _ _ _ _ _ _ _ _ _ _ _ _ hI hcnt

/-- What a world holds besides its count of draws. -/
theorem Rel.drawn (hJ : Stab J) {st : St} (hR : Rel J w0 N st g a w) (n : Nat) : Rel J w0 N st g a { w with drawn := n } := by
  have hu := (hR.un st.nx (Nat.le_refl _)).1
  have h0 := (hR.un st.nx (Nat.le_refl _)).2
  have hE : Ext st.nx g w g { w with drawn := n } := ⟨fun _ _ => rfl, Nat.le_refl _, fun _ _ => rfl, fun _ _ => rfl, fun b hb => by rw [h0] at hb; cases hb⟩
  have hW := hR.W.ext (n := none) hE hu h0 hR.pos ⟨hR.W.below.os, hR.W.below.tape, hR.W.below.output, hR.W.below.size, hR.W.below.block⟩ (hJ w _ (fun _ _ => rfl) (Nat.le_refl _) hR.W.jj) (by rw [h0]; exact List.nodup_nil) (fun b hb => by rw [h0] at hb; cases hb) (fun o ho => by cases ho)
  rw [upd_none hu] at hW
  refine ⟨hR.size, hR.defers, hW, fun t => ?_, hR.un, hR.pos⟩
  have := SVok.ext (n := none) hE hu h0 _ (hR.env t)
  rwa [upd_none hu] at this

def zipT : List (List Nat) → List Oper → List (List Nat × Oper)
  | x :: T, o :: l => (x, o) :: zipT T l
  | _, _ => []
theorem zipT_snd : ∀ (T : List (List Nat)) (l : List Oper), T.length = l.length → (zipT T l).map (·.2) = l
  | [], [], _ => rfl
  | x :: T, o :: l, h => by simp only [zipT, List.map_cons]; rw [zipT_snd T l (by simpa using h)]
  | [], _ :: _, h => by simp at h
  | _ :: _, [], h => by simp at h
theorem zipT_fst : ∀ (T : List (List Nat)) (l : List Oper) (i : Nat) p, (zipT T l)[i]? = some p → p.1 = T.getD i []
  | x :: T, o :: l, 0, p, h => by simp only [zipT, List.getElem?_cons_zero, Option.some.injEq] at h; subst h; rfl
  | x :: T, o :: l, i + 1, p, h => by
    simp only [zipT, List.getElem?_cons_succ] at h
    rw [zipT_fst T l i p h]; simp
  | [], _, _, _, h => by simp [zipT] at h
  | _ :: _, [], _, _, h => by simp [zipT] at h

/-- THE RULE. 'T': who waits for whom; 'fz': owned slices that become data ahead of the region. -/
theorem draw_by {st : St} (hm : P.follows .mixedOrders = true) (hZ : ZOK P Z) (hJ : Stab J) (T : List (List Nat)) (fz : List Operand) (hT : ancT [] ops.toList = T) (hlT : T.length = ops.size) (hok : drawOK ops T = true)
    (h : thenSt (st.frzL fz) fun s1 => evDr P Z J N (ddOf ops) 0 s1.nx 0 (zipT T ops.toList) s1 K) : DrawVC P Z J N ops st K := by
  intro w0 g a w hj0 hR id Q hQ
  refine wp_region_any hm ?_
  have hR := (hR.frzL fz).drawn hJ (w.drawn + 1)
  obtain ⟨l1, l2, tr, E, O, nx0, st', hI⟩ := segI_start (zs := zipT T ops.toList) (ops := ops) (listed := Array.replicate ops.size false) (pre := []) (l2 := zipT T ops.toList) (K := K) (P := P) (Z := Z) (dd := ddOf ops) hR h rfl (by simp) (fun k => by
    unfold SL
    simp [Array.getD]) (fun i o _ hi => by unfold SL at hi; simp [Array.getD] at hi)
  subst hT
  refine draw_main hZ hJ hj0 hok (zipT_snd _ _ (by simpa using hlT)) (fun i p hp => zipT_fst _ _ i p hp) hQ ops.size _ _ _ _ _ _ _ _ _ _ _ _ hI ?_
  have : ∀ (l : Array Bool) n, cnt l n ≤ n := by
    intro l n
    induction n with
    | zero => exact Nat.le_refl _
    | succ n ih => unfold cnt; split <;> omega
  exact this _ _
end
end Go.Proofs.Ytomhkcemkapmpaa
