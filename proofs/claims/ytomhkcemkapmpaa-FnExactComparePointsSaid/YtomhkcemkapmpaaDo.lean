/- From a frame's run to what a function gives. For every world: no condition. -/
import Derived.Test.YtomhkcemkapmpaaDn
namespace Go.Proofs.Ytomhkcemkapmpaa
open Go Go.RowKit
set_option linter.unusedVariables false
set_option linter.unusedSimpArgs false

def entryE : D → Nat → List (Nat × SV)
  | .acons x r, k => (k, .d false [0] x) :: entryE r (k + 1)
  | _, _ => []
def entrySt (args : D) : St := { env := entryE args 0, obs := [], nx := 1 }
def evRes (P : Program) : List ResultVar → St → Bool → List Nat → (Bool → List Nat → D → Prop) → Prop
  | [], _, pr, re, K => K pr re .anil
  | .tmp t :: l, st, pr, re, K => asD (getE (st.frzT t).env t) fun p r x => addR x p r pr re fun pr' re' => evRes P l (st.frzT t) pr' re' fun pr'' re'' y => K pr'' re'' (.acons x y)
  | .cell a t :: l, st, pr, re, K =>
    match getE st.env a with
    | .bx id => (match getO st.obs id with
      | some (.var p r x _) => loadOK P t x ∧ addR x p r pr re fun pr' re' => evRes P l st pr' re' fun pr'' re'' y => K pr'' re'' (.acons x y)
      | _ => False)
    | _ => False
def resOne (tmps : Array Value) : ResultVar → Sem Value
  | .tmp t => pure (tmps.getD t undef)
  | .cell p t => do loadVar t (← asAddr (tmps.getD p undef))
def pack : D → D
  | .acons x .anil => x
  | l => .tup l
def FlS (fl : Fl) (pr : Bool) (re : List Nat) : Prop :=
  match fl with
  | .any => True
  | .fresh => ∀ r ∈ re, 1 ≤ r
  | .sep => pr = true ∧ re.Nodup ∧ ∀ r ∈ re, 1 ≤ r
def retK (P : Program) (rs : List ResultVar) (fl : Fl) (y : D) : DEx → St → Prop
  | .exit _, _ => False
  | _, st => evRes P rs st true [] fun pr re l => D.sim (pack l) y ∧ FlS fl pr re

section
variable {P : Program} {Z : Nat → Option D} {J : World → Prop} {w0 : Base} {w w' : World} {g g' : Gh} {N : Nat} {st : St} {a : Act}

theorem evRes_sound : ∀ (rs : List ResultVar) {st : St} {pr : Bool} {re : List Nat} {K : Bool → List Nat → D → Prop}, evRes P rs st pr re K → Rel J w0 N st g a w → ∀ b0, Cov g pr re b0 →
    ∃ pr' re' l vs bs, K pr' re' l ∧ (rs.mapM (resOne a.tmps)).run P w = .ok vs w ∧ RepT w l vs bs ∧ Cov g pr' re' (b0 ++ bs)
  | [], st, pr, re, K, h, hR, b0, hc => ⟨pr, re, .anil, [], [], h, by simp, ⟨rfl, rfl⟩, by simpa using hc⟩
  | .tmp t :: rs, st, pr, re, K, h, hR, b0, hc => by
    have hR1 := hR.frzT t
    obtain ⟨p, r, x, hadd, bx, hx, hcx, hm⟩ := asD_sound h (hR1.env t)
    obtain ⟨pr', re', hk, hc'⟩ := addR_sound hadd hx.cells hcx hc
    obtain ⟨pr2, re2, l, vs, bs, q1, q2, q3, q4⟩ := evRes_sound rs hk hR1 (b0 ++ bx) hc'
    exact ⟨pr2, re2, _, _ :: vs, bx ++ bs, q1, by simp only [List.mapM_cons, resOne, Sem.run_bind, q2, Result.andThen_ok, Sem.run_pure], ⟨_, vs, bx, bs, rfl, rfl, hx, q3⟩, by rw [← List.append_assoc]; exact q4⟩
  | .cell p t :: rs, st, pr, re, K, h, hR, b0, hc => by
    unfold evRes at h
    split at h
    case h_2 => exact h.elim
    rename_i id hid
    have hs := hR.env p
    rw [hid] at hs
    obtain ⟨o, ho, hv⟩ := hs
    split at h
    case h_2 => exact h.elim
    rename_i p' r' x t' ho'
    rw [ho'] at ho; injection ho with ho; subst ho
    obtain ⟨hl, hadd⟩ := h
    obtain ⟨b, cs, bs0, e1, e2, e3, h1, h2, h3, h4⟩ := hR.W.obs _ _ ho'
    obtain ⟨u, hu, hr⟩ := run_loadVar' hl h1 (cells_of_block e3)
    obtain ⟨pr', re', hk, hc'⟩ := addR_sound hadd h1 h3 hc
    obtain ⟨pr2, re2, l, vs, bs, q1, q2, q3, q4⟩ := evRes_sound rs hk hR (b0 ++ bs0) hc'
    refine ⟨pr2, re2, _, u :: vs, bs0 ++ bs, q1, ?_, ⟨u, vs, bs0, bs, rfl, rfl, hr, q3⟩, by rw [← List.append_assoc]; exact q4⟩
    have hp : a.tmps.getD p undef = .pointer (some ⟨b, 0, none⟩) := (hv rfl).trans e1
    have hq : (asAddr (a.tmps.getD p undef)).run P w = .ok ⟨b, 0, none⟩ w := by rw [hp]; rfl
    simp only [List.mapM_cons, resOne, Sem.run_bind, hq, hu, Result.andThen_ok, q2, Sem.run_pure]

theorem flatMap_nodup (h : ∀ i j, 1 ≤ i → 1 ≤ j → i ≠ j → ∀ b ∈ g.B i, b ∉ g.B j) (hn : ∀ i, 1 ≤ i → (g.B i).Nodup) : ∀ re : List Nat, re.Nodup → (∀ r ∈ re, 1 ≤ r) → (re.flatMap g.B).Nodup
  | [], _, _ => by simp
  | r :: re, hd, h1 => by
    simp only [List.flatMap_cons]
    have hd' := List.nodup_cons.1 hd
    refine List.nodup_append.2 ⟨hn r (h1 r (List.mem_cons_self ..)), flatMap_nodup h hn re hd'.2 (fun i hi => h1 i (List.mem_cons_of_mem _ hi)), fun a ha b hb e => ?_⟩
    subst e
    obtain ⟨i, hi, hb⟩ := List.mem_flatMap.1 hb
    exact h r i (h1 r (List.mem_cons_self ..)) (h1 i (List.mem_cons_of_mem _ hi)) (fun e => hd'.1 (e ▸ hi)) a ha hb

theorem entry_ok {argB : List Nat} : ∀ (x : D) (k : Nat) {vs : List Value} {bs : List Nat} (pre : List Value) (post : List Value), RepT w x vs bs → pre.length = k → (∀ b ∈ bs, b ∈ argB) → ∀ t,
    SVok w ⟨fun i => if i = 0 then argB else [], fun _ => undef⟩ (fun _ => none) (getE (entryE x k) t) ((pre ++ vs ++ post).toArray.getD t undef)
  | .acons x r, k, vs, bs, pre, post, h, hk, hb, t => by
    obtain ⟨v, vs', b1, b2, rfl, rfl, h1, h2⟩ := h
    simp only [entryE, getE]
    by_cases ht : k = t
    · subst ht
      simp only [if_true]
      have hv : (pre ++ v :: vs' ++ post).toArray.getD k undef = v := by subst hk; simp
      rw [hv]
      refine ⟨b1, ?_, ⟨fun b hb' => by simpa using hb b (List.mem_append.2 (.inl hb')), fun h => by cases h⟩, fun b _ hm => ?_⟩
      · cases x <;> first | exact h1 | (exact (h1.cells).elim)
      · obtain ⟨i, o, hi, _⟩ := hm; cases hi
    · simp only [ht, if_false]
      have := entry_ok r (k + 1) (pre ++ [v]) post h2 (by simp [hk]) (fun b hb' => hb b (List.mem_append.2 (.inr hb'))) t
      simpa using this
  | .anil, _, _, _, _, _, _, _, _, _ => trivial
  | .int _ _, _, _, _, _, _, h, _, _, _ => h.elim
  | .bool _, _, _, _, _, _, h, _, _, _ => h.elim
  | .str _, _, _, _, _, _, h, _, _, _ => h.elim
  | .list _ _, _, _, _, _, _, h, _, _, _ => h.elim
  | .ref _, _, _, _, _, _, h, _, _, _ => h.elim
  | .fn _ _, _, _, _, _, _, h, _, _, _ => h.elim
  | .err _, _, _, _, _, _, h, _, _, _ => h.elim
  | .nils, _, _, _, _, _, h, _, _, _ => h.elim
  | .tup _, _, _, _, _, _, h, _, _, _ => h.elim

theorem callFunc_run {f : Nat} {fn : Func} (hf : P.funcs[f]? = some fn) (hb : fn.body.isSome = true) (hn : (fn.name == "runtime.NumGoroutine") = false) (args : Array Value) (w : World) : (callFunc f args).run P w = .ok (.enter f args) w := by
  have h2 : fn.body.isNone = false := by cases h : fn.body <;> simp_all
  simp only [callFunc, Sem.run_bind, run_program, Result.andThen_ok, hf, hn, h2, Bool.false_eq_true, if_false, Sem.run_pure]

/-- WHAT A FUNCTION GIVES, by its code's run on data. -/
theorem gives_of (hZ : ZOK P Z) (hJ : Stab J) {f : Nat} {fn : Func} {c : Code} {args y : D} {fl : Fl} (hf : P.funcs[f]? = some fn) (hb : fn.body = some c) (hn : (fn.name == "runtime.NumGoroutine") = false) (hsz : args.nfld ≤ fn.ntmps)
    (h : evC P Z J fn.ntmps c (entrySt args) (retK P fn.results.toList fl y)) : Gives P J f fl args y := by
  intro w vals bs hj hr
  unfold CallRes
  rw [callFunc_run hf (by rw [hb]; rfl) hn]
  have hlen : vals.length = args.nfld := by
    have : ∀ (x : D) {vs : List Value} {b : List Nat}, RepT w x vs b → vs.length = x.nfld := by
      intro x
      induction x with
      | acons x r ih1 ih2 => intro vs b h; obtain ⟨v, vs', b1, b2, rfl, _, _, h2⟩ := h; simp [D.nfld, ih2 h2]
      | anil => intro vs b h; obtain ⟨rfl, _⟩ := h; rfl
      | _ => intro vs b h; exact h.elim
    exact this _ hr
  refine calls_of_wp hf hb ?_
  let a0 : Act := { tmps := vals.toArray ++ Array.replicate (fn.ntmps - vals.toArray.size) undef, defers := [] }
  let b0 : Base := { w with A := bs }
  let g0 : Gh := ⟨fun i => if i = 0 then bs else [], fun _ => undef⟩
  have hR : Rel J b0 fn.ntmps (entrySt args) g0 a0 w := by
    refine ⟨by simp [a0, hlen]; omega, rfl, ⟨Below.refl _ _, hj, fun id o ho => (by cases ho), fun i j hi _ _ b hb => ?_, fun i hi => ?_, fun i hi b hb => ?_, fun b hb => ⟨hr.lt b (by simpa [g0] using hb), by simpa [g0] using hb⟩, rfl⟩, fun t => ?_, fun i hi => ⟨rfl, ?_⟩, Nat.le_refl _⟩
    · simp only [g0] at hb; rw [if_neg (by omega)] at hb; cases hb
    · simp only [g0]; rw [if_neg (by omega)]; exact List.nodup_nil
    · simp only [g0] at hb; rw [if_neg (by omega)] at hb; cases hb
    · have := entry_ok (w := w) (argB := bs) args 0 [] (List.replicate (fn.ntmps - vals.toArray.size) undef) hr rfl (fun b hb => hb) t
      have e : a0.tmps = ([] ++ vals ++ List.replicate (fn.ntmps - vals.toArray.size) undef).toArray := by
        apply Array.toList_inj.1; simp [a0]
      rw [e]
      exact this
    · have hi' : 1 ≤ i := hi
      simp only [g0]; rw [if_neg (by omega)]
  have hw := evC_sound hZ hJ hj c (entrySt args) g0 a0 w _ h hR
  refine Go.wp_mono hw fun e a w' hl => ?_
  have fin : ∀ st g, evRes P fn.results.toList st true [] (fun pr re l => D.sim (pack l) y ∧ FlS fl pr re) → Rel J b0 fn.ntmps st g a w' →
      a.defers = [] ∧ ∃ v, (results fn a.tmps).run P w' = .ok v w' ∧ ∃ v', Ending.returned v = .returned v' ∧ ∃ bs', RepR w' y v' bs' ∧ FlOK fl w.heap.size bs bs' ∧ Below w.heap.size w w' := by
    intro st g hres hR'
    obtain ⟨pr, re, l, vs, b1, ⟨hs, hfl⟩, hrun, hT, hc⟩ := evRes_sound _ hres hR' [] (Cov.nil _ _ _)
    simp only [List.nil_append] at hc
    have hrs : (results fn a.tmps).run P w' = .ok (if h : vs.toArray.size = 1 then vs.toArray[0] else .tuple vs.toArray) w' := by
      have e : results fn a.tmps = (do let vs ← fn.results.mapM (resOne a.tmps); pure (if h : vs.size = 1 then vs[0] else .tuple vs)) := by
        unfold results
        have : (fun x => match x with | .tmp t => pure (a.tmps.getD t undef) | .cell p t => do loadVar t (← asAddr (a.tmps.getD p undef)) : ResultVar → Sem Value) = resOne a.tmps := by
          funext x; cases x <;> rfl
        rw [← this]
        rfl
      rw [e, ← Array.toArray_toList (xs := fn.results), List.mapM_toArray]
      simp only [Sem.run_bind, Sem.run_map, hrun, Result.andThen_ok, Sem.run_pure]
    refine ⟨hR'.defers, _, hrs, _, rfl, b1, ?_, ?_, hR'.W.below⟩
    · refine RepR.sim ?_ hs
      cases l with
      | anil =>
        obtain ⟨rfl, rfl⟩ := hT
        exact ⟨[], rfl, rfl, rfl⟩
      | acons x r =>
        obtain ⟨v, vs', c1, c2, rfl, rfl, h1, h2⟩ := hT
        cases r with
        | anil =>
          obtain ⟨rfl, rfl⟩ := h2
          simp only [pack, List.append_nil]
          have : RepV w' x v c1 := h1
          simp only [List.size_toArray, List.length_singleton, dif_pos]
          cases x <;> first | exact this | exact (this.cells).elim
        | acons y' r' =>
          obtain ⟨u, us, d1, d2, rfl, rfl, h3, h4⟩ := h2
          have : ¬ ((v :: u :: us).toArray.size = 1) := by simp
          rw [dif_neg this]
          exact ⟨_, rfl, v, u :: us, c1, d1 ++ d2, rfl, rfl, h1, u, us, d1, d2, rfl, rfl, h3, h4⟩
        | _ => exact h2.elim
      | _ => exact hT.elim
    · have hin : ∀ b ∈ b1, ∀ (hre : ∀ r ∈ re, 1 ≤ r), w.heap.size ≤ b := fun b hb hre => by
        obtain ⟨i, hi, hb⟩ := List.mem_flatMap.1 (hc.1 b hb)
        exact (hR'.W.new i (hre i hi) b hb).1
      cases fl with
      | any =>
        intro b hb
        obtain ⟨i, hi, hb⟩ := List.mem_flatMap.1 (hc.1 b hb)
        rcases Nat.eq_zero_or_pos i with z | z
        · subst z; exact .inl (hR'.W.arg b hb).2
        · exact .inr (hR'.W.new i z b hb).1
      | fresh => exact fun b hb => hin b hb hfl
      | sep =>
        refine ⟨fun b hb => hin b hb hfl.2.2, ?_⟩
        obtain ⟨m, hm⟩ := hc.2 hfl.1
        have hn := flatMap_nodup hR'.W.disj hR'.W.nd re hfl.2.1 hfl.2.2
        have := hm.nodup_iff.2 hn
        exact (List.nodup_append.1 this).1
  cases e with
  | normal => obtain ⟨st, g, hk, hR'⟩ := hl; exact fin st g hk hR'
  | ret => obtain ⟨st, g, hk, hR'⟩ := hl; exact fin st g hk hR'
  | exit id => obtain ⟨st, g, hk, hR'⟩ := hl; exact hk.elim
  | goto l => exact hl.elim
  | panic c => exact hl.elim
  | outgrown => exact hl.elim
end
end Go.Proofs.Ytomhkcemkapmpaa
