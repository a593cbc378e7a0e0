/- A region that draws its order: whatever the order, the run in the text's order tells what comes of it. For every world: no condition. -/
import Derived.Test.YtomhkcemkapmpaaDr
namespace Go.Proofs.Ytomhkcemkapmpaa
open Go Go.RowKit
set_option linter.unusedVariables false
set_option linter.unusedSimpArgs false

def dynE (S : Nat → Bool) : Nat → List (List Nat × Oper) → List (SV × Option Ob) → (Nat → SV) → (Nat → SV)
  | i, (_, o) :: l, (r, _) :: tr, E => dynE S (i + 1) l tr (if S i = true then putE E o.dst r else E)
  | _, _, _, E => E
def NBt (tr : List (SV × Option Ob)) (m : Nat) : Option Ob := (tr.getD m (.junk, none)).2
def obD (S : Nat → Bool) (s nx0 : Nat) (tr : List (SV × Option Ob)) (O : Nat → Option Ob) : Nat → Option Ob := fun j => if j < nx0 then O j else if S (s + (j - nx0)) = true then NBt tr (j - nx0) else none

theorem dynE_at (S : Nat → Bool) (i t : Nat) : ∀ (l : List (List Nat × Oper)) (tr : List (SV × Option Ob)) (i0 : Nat) (E E' : Nat → SV), tr.length = l.length → E t = E' t →
    (∀ k p, l[k]? = some p → p.2.dst = some t → (i0 + k < i → S (i0 + k) = true) ∧ (i ≤ i0 + k → S (i0 + k) = false)) → dynE S i0 l tr E t = endE (l.take (i - i0)) (tr.take (i - i0)) E' t
  | [], [], i0, E, E', _, he, _ => by simpa [dynE, endE] using he
  | (anc, o) :: l, (r, nob) :: tr, i0, E, E', hl, he, h => by
    have h0 := h 0 (anc, o) rfl
    simp only [Nat.add_zero] at h0
    unfold dynE
    by_cases hi : i0 < i
    · obtain ⟨m, hm⟩ : ∃ m, i - i0 = m + 1 := ⟨i - i0 - 1, by omega⟩
      have hm' : m = i - (i0 + 1) := by omega
      rw [hm, List.take_succ_cons, List.take_succ_cons]
      unfold endE
      rw [hm']
      refine dynE_at S i t l tr (i0 + 1) _ _ (by simpa using hl) ?_ (fun k p hk hp => by
        have := h (k + 1) p (by simpa using hk) hp
        rw [show i0 + 1 + k = i0 + (k + 1) by omega]; exact this)
      by_cases hd : o.dst = some t
      · rw [if_pos ((h0 hd).1 hi)]; simp [putE, hd]
      · split <;> simp [putE, hd, he]
    · have hz : i - i0 = 0 := by omega
      have hz' : i - (i0 + 1) = 0 := by omega
      have hr := dynE_at S i t l tr (i0 + 1) (if S i0 = true then putE E o.dst r else E) E' (by simpa using hl) (by
        by_cases hd : o.dst = some t
        · rw [if_neg (by rw [(h0 hd).2 (by omega)]; simp)]; exact he
        · split <;> simp [putE, hd, he]) (fun k p hk hp => by
          have := h (k + 1) p (by simpa using hk) hp
          rw [show i0 + 1 + k = i0 + (k + 1) by omega]; exact this)
      rw [hr, hz, hz']
      simp [endE]
  | [], _ :: _, _, _, _, hl, _, _ => by simp at hl
  | _ :: _, [], _, _, _, hl, _, _ => by simp at hl

theorem dynE_congr (S S' : Nat → Bool) (t : Nat) : ∀ (l : List (List Nat × Oper)) (tr : List (SV × Option Ob)) (i0 : Nat) (E E' : Nat → SV), (∀ k, i0 ≤ k → S k = S' k) → E t = E' t → dynE S i0 l tr E t = dynE S' i0 l tr E' t
  | [], tr, i0, E, E', _, he => by simpa [dynE] using he
  | _ :: _, [], i0, E, E', _, he => by simpa [dynE] using he
  | (anc, o) :: l, (r, nob) :: tr, i0, E, E', hS, he => by
    unfold dynE
    refine dynE_congr S S' t l tr (i0 + 1) _ _ (fun k hk => hS k (by omega)) ?_
    rw [hS i0 (Nat.le_refl _)]
    split
    · unfold putE; split
      · rfl
      · exact he
    · exact he

theorem dynE_keep (S : Nat → Bool) (t : Nat) : ∀ (l : List (List Nat × Oper)) (tr : List (SV × Option Ob)) (i0 : Nat) (E : Nat → SV), (∀ k p, l[k]? = some p → p.2.dst = some t → S (i0 + k) = false) → dynE S i0 l tr E t = E t
  | [], tr, i0, E, _ => by simp [dynE]
  | _ :: _, [], i0, E, _ => by simp [dynE]
  | (anc, o) :: l, (r, nob) :: tr, i0, E, h => by
    unfold dynE
    rw [dynE_keep S t l tr (i0 + 1) _ (fun k p hk hp => by
      have := h (k + 1) p (by simpa using hk) hp
      rw [show i0 + 1 + k = i0 + (k + 1) by omega]; exact this)]
    split
    · rename_i hs
      unfold putE
      split
      · rename_i hd
        have := h 0 (anc, o) rfl hd
        simp only [Nat.add_zero] at this
        rw [this] at hs; cases hs
      · rfl
    · rfl

/-- One more is carried out. -/
theorem dynE_step (S S' : Nat → Bool) (i t : Nat) (hS : ∀ k, S' k = if k = i then true else S k) (hi : S i = false) (anc : List Nat) (o : Oper) (r : SV) (nob : Option Ob) :
    ∀ (l : List (List Nat × Oper)) (tr : List (SV × Option Ob)) (i0 : Nat) (E E' : Nat → SV), i0 ≤ i → l[i - i0]? = some (anc, o) → tr[i - i0]? = some (r, nob) → E t = E' t →
    (o.dst = some t → ∀ k p, i < i0 + k → l[k]? = some p → p.2.dst = some t → S (i0 + k) = false) → dynE S' i0 l tr E' t = if o.dst = some t then r else dynE S i0 l tr E t
  | [], tr, i0, E, E', _, hl, _, _, _ => by simp at hl
  | _ :: _, [], i0, E, E', _, _, ht, _, _ => by simp at ht
  | (anc', o') :: l, (r', nob') :: tr, i0, E, E', hle, hl, ht, he, h => by
    unfold dynE
    rcases Nat.lt_or_ge i0 i with hlt | hge
    · obtain ⟨m, hm⟩ : ∃ m, i - i0 = m + 1 := ⟨i - i0 - 1, by omega⟩
      have hm' : i - (i0 + 1) = m := by omega
      rw [hm] at hl ht
      refine dynE_step S S' i t hS hi anc o r nob l tr (i0 + 1) _ _ (by omega) (by rw [hm']; simpa using hl) (by rw [hm']; simpa using ht) ?_ (fun hd k p hk hp hpd => by
        have := h hd (k + 1) p (by omega) (by simpa using hp) hpd
        rw [show i0 + 1 + k = i0 + (k + 1) by omega]; exact this)
      have e : S' i0 = S i0 := by rw [hS]; exact if_neg (by omega)
      rw [e]
      split
      · unfold putE; split
        · rfl
        · exact he
      · exact he
    · have e : i0 = i := by omega
      subst e
      simp only [Nat.sub_self, List.getElem?_cons_zero, Option.some.injEq, Prod.mk.injEq] at hl ht
      obtain ⟨rfl, rfl⟩ := hl
      obtain ⟨rfl, rfl⟩ := ht
      have e1 : S' i0 = true := by rw [hS]; exact if_pos rfl
      have e2 : ¬ S i0 = true := by rw [hi]; simp
      rw [if_pos e1, if_neg e2]
      have agree : ∀ k, i0 + 1 ≤ k → S' k = S k := fun k hk => by rw [hS k, if_neg (by omega)]
      rw [dynE_congr S' S t l tr (i0 + 1) (putE E' o'.dst r') (putE E' o'.dst r') agree rfl]
      by_cases hd : o'.dst = some t
      · rw [if_pos hd, dynE_keep S t l tr (i0 + 1) _ (fun k p hk hp => by
          have := h hd (k + 1) p (by omega) (by simpa using hk) hp
          rw [show i0 + 1 + k = i0 + (k + 1) by omega]; exact this)]
        simp [putE, hd]
      · rw [if_neg hd]
        exact dynE_congr S S t l tr (i0 + 1) _ _ (fun _ _ => rfl) (by simp [putE, hd, he])

theorem endO_at (s nx0 : Nat) : ∀ (tr : List (SV × Option Ob)) (i0 : Nat) (O : Nat → Option Ob) (j : Nat), s ≤ i0 →
    endO s nx0 i0 tr O j = if nx0 + (i0 - s) ≤ j ∧ j < nx0 + (i0 - s) + tr.length ∧ (NBt tr (j - (nx0 + (i0 - s)))).isSome = true then NBt tr (j - (nx0 + (i0 - s))) else O j
  | [], i0, O, j, h => by simp only [endO]; rw [if_neg]; simp only [List.length_nil]; omega
  | (r, nob) :: tr, i0, O, j, h => by
    unfold endO
    rw [endO_at s nx0 tr (i0 + 1) _ j (by omega)]
    have e1 : i0 + 1 - s = i0 - s + 1 := by omega
    rw [e1]
    by_cases hj : j = nx0 + (i0 - s)
    · subst hj
      rw [if_neg (by omega)]
      simp only [putO, true_and, Nat.le_refl, Nat.sub_self, NBt, List.getD_cons_zero, List.length_cons]
      have : nx0 + (i0 - s) < nx0 + (i0 - s) + (tr.length + 1) := by omega
      simp only [this, true_and]
    · have hp : putO O (nx0 + (i0 - s)) nob j = O j := by simp [putO, hj]
      rw [hp]
      by_cases hlt : nx0 + (i0 - s) < j
      · have e2 : j - (nx0 + (i0 - s)) = (j - (nx0 + (i0 - s + 1))) + 1 := by omega
        have e3 : NBt ((r, nob) :: tr) (j - (nx0 + (i0 - s))) = NBt tr (j - (nx0 + (i0 - s + 1))) := by rw [e2]; simp [NBt]
        rw [e3]
        simp only [List.length_cons]
        by_cases hb : j < nx0 + (i0 - s) + (tr.length + 1)
        · have c1 : nx0 + (i0 - s + 1) ≤ j := by omega
          have c2 : j < nx0 + (i0 - s + 1) + tr.length := by omega
          have c3 : nx0 + (i0 - s) ≤ j := by omega
          simp only [c1, c2, c3, hb, true_and]
        · rw [if_neg (by omega), if_neg (by omega)]
      · rw [if_neg (by omega), if_neg (by omega)]

section
variable {P : Program} {Z : Nat → Option D} {J : World → Prop} {N : Nat} {dd : Nat → Option Nat}

theorem fact_at {s nx0 : Nat} : ∀ (l : List (List Nat × Oper)) (tr : List (SV × Option Ob)) (i : Nat) (E : Nat → SV) (O : Nat → Option Ob) (m : Nat) (anc : List Nat) (o : Oper), TF P Z J N dd s nx0 i l tr E O → l[m]? = some (anc, o) →
    ∃ r nob, tr[m]? = some (r, nob) ∧ Fact P Z J N dd s nx0 (i + m) anc o (endE (l.take m) (tr.take m) E) (endO s nx0 i (tr.take m) O) r nob
  | [], _, _, _, _, _, _, _, _, h => by simp at h
  | _ :: _, [], _, _, _, _, _, _, h, _ => h.elim
  | (anc', o') :: l, (r, nob) :: tr, i, E, O, 0, anc, o, h, hm => by
    simp only [List.getElem?_cons_zero, Option.some.injEq, Prod.mk.injEq] at hm
    obtain ⟨rfl, rfl⟩ := hm
    exact ⟨r, nob, rfl, h.1⟩
  | (anc', o') :: l, (r, nob) :: tr, i, E, O, m + 1, anc, o, h, hm => by
    obtain ⟨r', nob', h1, h2⟩ := fact_at l tr (i + 1) _ _ m anc o h.2 (by simpa using hm)
    refine ⟨r', nob', by simpa using h1, ?_⟩
    rw [List.take_succ_cons, List.take_succ_cons, show i + (m + 1) = i + 1 + m by omega]
    exact h2

theorem evP_rho {ob : Nat → Option Ob} {ρ ρ' : Operand → SV} {id : Nat} {o : Op} {K : SV → Option Ob → Prop} (h : ∀ x ∈ o.operands.toList, ρ x = ρ' x) (hh : evP P Z J ob ρ id o K) : evP P Z J ob ρ' id o K := by
  have hmap : ∀ l : List Operand, (∀ x ∈ l, ρ x = ρ' x) → l.map ρ = l.map ρ' := fun l hl => List.map_congr_left hl
  cases o <;> simp only [evP] at hh ⊢ <;> try exact hh
  case move x => rw [← h x (by simp [Op.operands])]; exact hh
  case assign x => rw [← h x (by simp [Op.operands])]; exact hh
  case pick c a b => rw [← h c (by simp [Op.operands]), ← h a (by simp [Op.operands]), ← h b (by simp [Op.operands])]; exact hh
  case box t x => rw [← h x (by simp [Op.operands])]; exact hh
  case build t ps =>
    have : (ps.toList.map fun p => (p.1, ρ' p.2)) = (ps.toList.map fun p => (p.1, ρ p.2)) := List.map_congr_left fun p hp => by rw [h p.2 (by simp only [Op.operands]; exact List.mem_map.2 ⟨p, hp, rfl⟩)]
    rw [this]; exact hh
  case buildSlice t n ps =>
    have : (ps.toList.map fun p => (p.1, ρ' p.2)) = (ps.toList.map fun p => (p.1, ρ p.2)) := List.map_congr_left fun p hp => by rw [h p.2 (by simp only [Op.operands]; exact List.mem_map.2 ⟨p, hp, rfl⟩)]
    rw [this]; exact hh
  case load t x => rw [← h x (by simp [Op.operands])]; exact hh
  case binOp op t x y t' => rw [← h x (by simp [Op.operands]), ← h y (by simp [Op.operands])]; exact hh
  case unOp op t x => rw [← h x (by simp [Op.operands])]; exact hh
  case convert s t x => rw [← h x (by simp [Op.operands])]; exact hh
  case makeFunc fn fs cs =>
    cases fn <;> simp only at hh ⊢ <;> try exact hh
    rw [← hmap cs.toList (fun x hx => h x (by simp [Op.operands] at hx ⊢; exact .inr hx))]; exact hh
  case makeSlice t x y => rw [← h x (by simp [Op.operands]), ← h y (by simp [Op.operands])]; exact hh
  case slice t x lo hi mx =>
    cases mx with
    | some m => exact hh.elim
    | none =>
      have e1 : lo.map ρ' = lo.map ρ := by cases lo with | none => rfl | some y => simp only [Option.map_some]; rw [h y (by simp [Op.operands])]
      have e2 : hi.map ρ' = hi.map ρ := by cases hi with | none => rfl | some y => simp only [Option.map_some]; rw [h y (by simp [Op.operands])]
      simp only at hh ⊢
      rw [e1, e2, ← h x (by simp [Op.operands])]; exact hh
  case fieldAddr t x k => rw [← h x (by simp [Op.operands])]; exact hh
  case field t x k => rw [← h x (by simp [Op.operands])]; exact hh
  case indexAddr t x i => rw [← h x (by simp [Op.operands]), ← h i (by simp [Op.operands])]; exact hh
  case index t x i => rw [← h x (by simp [Op.operands]), ← h i (by simp [Op.operands])]; exact hh
  case nilCheck x => rw [← h x (by simp [Op.operands])]; exact hh
  case extract x k => rw [← h x (by simp [Op.operands])]; exact hh
  case call c =>
    have ha : ∀ x ∈ c.args.toList, ρ x = ρ' x := fun x hx => h x (by simp only [Op.operands, Call.operands]; simp; exact .inr (by simpa using hx))
    split at hh
    · rename_i hc
      try simp only [hc]
      split at hh
      · rename_i hx ht
        try simp only [hx, ht]
        rw [← ha _ (by rw [hx]; exact List.mem_cons_self ..)]; exact hh
      · exact hh.elim
    · rename_i f hc
      try simp only [hc]
      rw [← hmap _ ha, ← h f (by simp [Op.operands, Call.operands, hc])]; exact hh
    · exact hh.elim
end
end Go.Proofs.Ytomhkcemkapmpaa
