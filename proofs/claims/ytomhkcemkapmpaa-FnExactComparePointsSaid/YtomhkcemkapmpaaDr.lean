/- A region that draws its order: one run in the text's order stands for all. For every world: no condition. -/
import Derived.Test.YtomhkcemkapmpaaDq
namespace Go.Proofs.Ytomhkcemkapmpaa
open Go Go.RowKit
set_option linter.unusedVariables false
set_option linter.unusedSimpArgs false

/-! ### The text's own order: who waits for whom -/
def dirs (o : Oper) : List Nat := (o.after.toList.filter (Region.binds .any)).map (·.on)
def addN (k : Nat) (l : List Nat) : List Nat := if l.contains k then l else k :: l
def ancOne (T : List (List Nat)) (o : Oper) : List Nat := (dirs o).foldr (fun k l => addN k ((T.getD k []).foldr addN l)) []
def ancT : List (List Nat) → List Oper → List (List Nat)
  | T, [] => T
  | T, o :: r => ancT (T ++ [ancOne T o]) r
def isEff : Op → Bool
  | .store _ _ _ => true
  | .call c => (match c.callee with | .builtin .append => true | _ => false)
  | _ => false
def drawOK (ops : Array Oper) (T : List (List Nat)) : Bool :=
  (List.range ops.size).all fun j => match ops[j]? with
    | some b => (dirs b).all (fun k => decide (k < j)) && (List.range j).all fun i => match ops[i]? with
      | some a => (!(isEff a.op) && !(isEff b.op) && a.apart ops b) || (T.getD j []).contains i
      | none => true
    | none => true

theorem mem_addN {k x : Nat} {l : List Nat} (h : x ∈ addN k l) : x = k ∨ x ∈ l := by
  unfold addN at h; split at h
  · exact .inr h
  · exact List.mem_cons.1 h
theorem mem_addNs {x : Nat} : ∀ {m l : List Nat}, x ∈ m.foldr addN l → x ∈ m ∨ x ∈ l
  | [], l, h => .inr h
  | k :: m, l, h => by
    rcases mem_addN h with rfl | h
    · exact .inl (List.mem_cons_self ..)
    · rcases mem_addNs h with h | h
      · exact .inl (List.mem_cons_of_mem _ h)
      · exact .inr h
theorem mem_ancOne {T : List (List Nat)} {o : Oper} {x : Nat} (h : x ∈ ancOne T o) : x ∈ dirs o ∨ ∃ k ∈ dirs o, x ∈ T.getD k [] := by
  unfold ancOne at h
  generalize dirs o = ds at h ⊢
  induction ds with
  | nil => cases h
  | cons k ds ih =>
    rcases mem_addN h with rfl | h
    · exact .inl (List.mem_cons_self ..)
    · rcases mem_addNs h with h | h
      · exact .inr ⟨k, List.mem_cons_self .., h⟩
      · rcases ih h with h | ⟨k', hk, h⟩
        · exact .inl (List.mem_cons_of_mem _ h)
        · exact .inr ⟨k', List.mem_cons_of_mem _ hk, h⟩
/-- Closed under what each waits for. -/
def Down (ops : List Oper) (S : Nat → Prop) : Prop := ∀ i o, ops[i]? = some o → S i → ∀ k ∈ dirs o, S k
theorem ancT_ok {ops : List Oper} {S : Nat → Prop} (hS : Down ops S) : ∀ (r : List Oper) (T : List (List Nat)) (pre : List Oper), ops = pre ++ r → T.length = pre.length →
    (∀ i o, pre[i]? = some o → (∀ k ∈ dirs o, S k) → ∀ k ∈ T.getD i [], S k) → ∀ i o, ops[i]? = some o → (∀ k ∈ dirs o, S k) → ∀ k ∈ (ancT T r).getD i [], S k
  | [], T, pre, he, hl, h => by simpa [ancT, he] using h
  | o :: r, T, pre, he, hl, h => by
    refine ancT_ok hS r (T ++ [ancOne T o]) (pre ++ [o]) (by simp [he]) (by simp [hl]) fun i q hq hd k hk => ?_
    by_cases hi : i < pre.length
    · rw [List.getElem?_append_left hi] at hq
      have : (T ++ [ancOne T o]).getD i [] = T.getD i [] := by
        simp only [List.getD_eq_getElem?_getD]; rw [List.getElem?_append_left (by omega)]
      rw [this] at hk
      exact h i q hq hd k hk
    · have hlt := (List.getElem?_eq_some_iff.1 hq).1
      simp at hlt
      have hi' : i = pre.length := by omega
      subst hi'
      simp at hq; subst hq
      have : (T ++ [ancOne T o]).getD pre.length [] = ancOne T o := by
        simp only [List.getD_eq_getElem?_getD]; rw [← hl]; simp
      rw [this] at hk
      rcases mem_ancOne hk with h1 | ⟨k', h1, h2⟩
      · exact hd k h1
      · have hs := hd k' h1
        by_cases hk' : k' < pre.length
        · refine h k' pre[k'] (by simp [hk']) (fun x hx => hS k' pre[k'] ?_ hs x hx) k h2
          rw [he, List.getElem?_append_left hk']; simp [hk']
        · have : T.getD k' [] = [] := by
            simp only [List.getD_eq_getElem?_getD]; rw [List.getElem?_eq_none (by omega)]; rfl
          rw [this] at h2; cases h2

/-! ### The run in the text's order -/
def obR (anc : List Nat) (s nx0 : Nat) (obs : Nat → Option Ob) : Nat → Option Ob := fun j => if j < nx0 then obs j else if anc.contains (s + (j - nx0)) then obs j else none
def St.made (st : St) (id : Nat) (d : Option Nat) (r : SV) (nob : Option Ob) : St :=
  { env := (match d with | some t => (t, r) :: st.env | none => st.env), obs := (match nob with | some o => (id, o) :: st.obs | none => st.obs), nx := st.nx }
def evD1 (P : Program) (Z : Nat → Option D) (J : World → Prop) (N s nx0 i : Nat) (anc : List Nat) (o : Oper) (st : St) (K : St → Prop) : Prop :=
  dstOK N o.dst ∧ evP P Z J (obR anc s nx0 (getO st.obs)) st.opd (nx0 + (i - s)) o.op fun r nob => K (st.made (nx0 + (i - s)) o.dst r nob)
def evDr (P : Program) (Z : Nat → Option D) (J : World → Prop) (N : Nat) (dd : Nat → Option Nat) : Nat → Nat → Nat → List (List Nat × Oper) → St → (St → Prop) → Prop
  | s, nx0, i, [], st, K => K { st with nx := nx0 + (i - s) }
  | s, nx0, i, (anc, o) :: r, st, K =>
    if isEff o.op = true then o.guard = none ∧ evStep P Z J N o { st with nx := nx0 + (i - s) } fun st' => evDr P Z J N dd (i + 1) st'.nx (i + 1) r st' K
    else match o.guard with
    | none => evD1 P Z J N s nx0 i anc o st fun st' => evDr P Z J N dd s nx0 (i + 1) r st' K
    | some (j, want) =>
      match dd j with
      | some t => vBool (getE st.env t) fun b => onBool b fun b' =>
          if b' = want then evD1 P Z J N s nx0 i anc o (st.fixB t b') fun st' => evDr P Z J N dd s nx0 (i + 1) r st' K
          else dstOK N o.dst ∧ evDr P Z J N dd s nx0 (i + 1) r ((st.fixB t b').put o.dst .junk) K
      | none => False

/-! ### What the run in the text's order tells of each operation -/
def Imp (s s' : SV) : Prop := ∀ w g ob v, SVok w g ob s v → SVok w g ob s' v
def opdE (E : Nat → SV) : Operand → SV
  | .tmp t => E t
  | .const v => constSV v
  | .func f => .cl f .cnil
  | .global _ => .junk
theorem opd_eq (st : St) : st.opd = opdE (getE st.env) := by funext x; cases x <;> rfl
def GOK (dd : Nat → Option Nat) (E : Nat → SV) (o : Oper) (want : Bool) : Prop :=
  match o.guard with
  | none => want = true
  | some (j, b) => ∃ t v, dd j = some t ∧ (∀ w g ob u, SVok w g ob (E t) u → u = .bool v) ∧ (decide (v = b)) = want
def Fact (P : Program) (Z : Nat → Option D) (J : World → Prop) (N : Nat) (dd : Nat → Option Nat) (s nx0 i : Nat) (anc : List Nat) (o : Oper) (E : Nat → SV) (O : Nat → Option Ob) (r : SV) (nob : Option Ob) : Prop :=
  isEff o.op = false ∧ dstOK N o.dst ∧ ((GOK dd E o true ∧ ∃ E' : Nat → SV, (∀ t, Imp (E t) (E' t)) ∧ ∀ ob' (K' : SV → Option Ob → Prop), Sub (obR anc s nx0 O) ob' → K' r nob → evP P Z J ob' (opdE E') (nx0 + (i - s)) o.op K') ∨
    (GOK dd E o false ∧ r = .junk ∧ nob = none))
def putE (E : Nat → SV) (d : Option Nat) (r : SV) : Nat → SV := fun t => if d = some t then r else E t
def putO (O : Nat → Option Ob) (id : Nat) (nob : Option Ob) : Nat → Option Ob := fun j => if j = id ∧ nob.isSome = true then nob else O j
def TF (P : Program) (Z : Nat → Option D) (J : World → Prop) (N : Nat) (dd : Nat → Option Nat) (s nx0 : Nat) : Nat → List (List Nat × Oper) → List (SV × Option Ob) → (Nat → SV) → (Nat → Option Ob) → Prop
  | i, (anc, o) :: l, (r, nob) :: tr, E, O => Fact P Z J N dd s nx0 i anc o E O r nob ∧ TF P Z J N dd s nx0 (i + 1) l tr (putE E o.dst r) (putO O (nx0 + (i - s)) nob)
  | _, [], [], _, _ => True
  | _, _, _, _, _ => False
def endE : List (List Nat × Oper) → List (SV × Option Ob) → (Nat → SV) → Nat → SV
  | (_, o) :: l, (r, _) :: tr, E => endE l tr (putE E o.dst r)
  | _, _, E => E
def endO (s nx0 : Nat) : Nat → List (SV × Option Ob) → (Nat → Option Ob) → Nat → Option Ob
  | i, (_, nob) :: tr, O => endO s nx0 (i + 1) tr (putO O (nx0 + (i - s)) nob)
  | _, [], O => O

section
variable {P : Program} {Z : Nat → Option D} {J : World → Prop} {N : Nat} {dd : Nat → Option Nat}

theorem getO_made (st : St) (id : Nat) (d : Option Nat) (r : SV) (nob : Option Ob) : getO (st.made id d r nob).obs = putO (getO st.obs) id nob := by
  funext j
  cases nob with
  | none => simp [St.made, putO]
  | some o => simp only [St.made, getO, putO, Option.isSome_some, and_true]; by_cases h : id = j
              · simp [h]
              · simp [h, Ne.symm h]
theorem getE_made (st : St) (id : Nat) (d : Option Nat) (r : SV) (nob : Option Ob) (t : Nat) : getE (st.made id d r nob).env t = putE (getE st.env) d r t := by
  cases d with
  | none => simp [St.made, putE]
  | some d => simp only [St.made, getE, putE, Option.some.injEq]

/-- The end of a stretch without effects. -/
def Stop (P : Program) (Z : Nat → Option D) (J : World → Prop) (N : Nat) (dd : Nat → Option Nat) (s nx0 e : Nat) (l2 : List (List Nat × Oper)) (st : St) (K : St → Prop) : Prop :=
  match l2 with
  | [] => K { st with nx := nx0 + (e - s) }
  | (_, o) :: l3 => isEff o.op = true ∧ o.guard = none ∧ evStep P Z J N o { st with nx := nx0 + (e - s) } fun st' => evDr P Z J N dd (e + 1) st'.nx (e + 1) l3 st' K

theorem trace_of {s nx0 : Nat} {K : St → Prop} : ∀ (l : List (List Nat × Oper)) (i : Nat) (st : St) (E : Nat → SV), evDr P Z J N dd s nx0 i l st K → (∀ t, Imp (E t) (getE st.env t)) →
    ∃ l1 l2 tr st', l = l1 ++ l2 ∧ tr.length = l1.length ∧ TF P Z J N dd s nx0 i l1 tr E (getO st.obs) ∧ (∀ t, Imp (endE l1 tr E t) (getE st'.env t)) ∧ getO st'.obs = endO s nx0 i tr (getO st.obs) ∧
      Stop P Z J N dd s nx0 (i + l1.length) l2 st' K
  | [], i, st, E, h, hE => ⟨[], [], [], st, rfl, rfl, trivial, hE, rfl, h⟩
  | (anc, o) :: l, i, st, E, h, hE => by
    unfold evDr at h
    split at h
    · rename_i he
      exact ⟨[], (anc, o) :: l, [], st, rfl, rfl, trivial, hE, rfl, he, h⟩
    · rename_i he
      have he : isEff o.op = false := by simpa using he
      -- one pure operation, carried out
      have go : ∀ st1 : St, (∀ t, Imp (E t) (getE st1.env t)) → getO st1.obs = getO st.obs → GOK dd E o true → evD1 P Z J N s nx0 i anc o st1 (fun st' => evDr P Z J N dd s nx0 (i + 1) l st' K) →
          ∃ l1 l2 tr st', (anc, o) :: l = l1 ++ l2 ∧ tr.length = l1.length ∧ TF P Z J N dd s nx0 i l1 tr E (getO st.obs) ∧ (∀ t, Imp (endE l1 tr E t) (getE st'.env t)) ∧ getO st'.obs = endO s nx0 i tr (getO st.obs) ∧
            Stop P Z J N dd s nx0 (i + l1.length) l2 st' K := by
        intro st1 hE1 hO1 hG h
        obtain ⟨hd, h⟩ := h
        obtain ⟨r, nob, hk, hall⟩ := evP_ang h
        obtain ⟨l1, l2, tr, st', a1, a2, a3, a4, a5, a6⟩ := trace_of l (i + 1) _ (putE E o.dst r) hk (fun t => by
          rw [getE_made]; unfold putE; split
          · exact fun _ _ _ _ h => h
          · exact hE1 t)
        rw [getO_made, hO1] at a3 a5
        refine ⟨(anc, o) :: l1, l2, (r, nob) :: tr, st', by rw [a1]; rfl, by simp [a2], ⟨⟨he, hd, .inl ⟨hG, getE st1.env, hE1, ?_⟩⟩, a3⟩, a4, a5, by simpa [Nat.add_assoc, Nat.add_comm 1] using a6⟩
        intro ob' K' hs hk'
        have := hall ob' K' (by rw [hO1]; exact hs) hk'
        rwa [opd_eq] at this
      split at h
      · rename_i hg
        exact go st hE rfl (by simp [GOK, hg]) h
      · rename_i j want hg
        split at h
        · rename_i t ht
          obtain ⟨b, h1, h2⟩ := vBool_ang h
          have hb : getE st.env t = getE st.env t := rfl
          have hv : ∀ w g ob u, SVok w g ob (E t) u → u = .bool b := by
            intro w g ob u hu
            have hu := hE t w g ob u hu
            obtain ⟨b', hb', hk⟩ := vBool_sound (K := fun b' => b' = b) (h2 _ rfl) hu
            rw [hb', hk]
          have h3 := onBool_ang h1
          have h3 := h3.1
          have hfix : ∀ u, Imp (E u) (getE (st.fixB t b).env u) := by
            intro u w g ob v hu
            simp only [St.fixB, getE]
            by_cases e : t = u
            · subst e
              simp only [if_true]
              rw [hv w g ob v hu]
              exact dok_bool ..
            · simp only [e, if_false]; exact hE u w g ob v hu
          split at h3
          · rename_i hw
            exact go _ hfix rfl (by simp only [GOK, hg]; exact ⟨t, b, ht, hv, by simp [hw]⟩) h3
          · rename_i hw
            obtain ⟨hd, h3⟩ := h3
            obtain ⟨l1, l2, tr, st', a1, a2, a3, a4, a5, a6⟩ := trace_of l (i + 1) _ (putE E o.dst .junk) h3 (fun u => by
              cases hdst : o.dst with
              | none => simp only [St.put, putE]; simpa using hfix u
              | some d =>
                simp only [St.put, getE, putE, Option.some.injEq]
                split
                · exact fun _ _ _ _ h => h
                · exact hfix u)
            have hob : getO ((st.fixB t b).put o.dst .junk).obs = putO (getO st.obs) (nx0 + (i - s)) none := by
              funext j; cases o.dst <;> simp [St.put, St.fixB, putO]
            rw [hob] at a3 a5
            exact ⟨(anc, o) :: l1, l2, (.junk, none) :: tr, st', by rw [a1]; rfl, by simp [a2], ⟨⟨he, hd, .inr ⟨by simp only [GOK, hg]; exact ⟨t, b, ht, hv, by simp [hw]⟩, rfl, rfl⟩⟩, a3⟩, a4, a5, by simpa [Nat.add_assoc, Nat.add_comm 1] using a6⟩
        · exact h.elim
end
end Go.Proofs.Ytomhkcemkapmpaa
