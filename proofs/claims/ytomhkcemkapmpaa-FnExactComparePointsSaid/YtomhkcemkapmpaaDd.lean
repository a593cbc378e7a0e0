/- Soundness of the steps that compute a value. For every world: no condition. -/
import Derived.Test.YtomhkcemkapmpaaDc
namespace Go.Proofs.Ytomhkcemkapmpaa
open Go Go.RowKit
set_option linter.unusedVariables false
set_option linter.unusedSimpArgs false
variable {P : Program} {w : World} {g : Gh} {ob : Nat → Option Ob}

theorem dok_int (pr : Bool) (re : List Nat) (k : IntKind) (n : Int) : DOK w g ob pr re (.int k n) (.int k n) := ⟨[], (repV_one rfl).2 ⟨rfl, rfl⟩, Cov.nil _ _ _, by simp⟩
theorem dok_bool (pr : Bool) (re : List Nat) (b : Bool) : DOK w g ob pr re (.bool b) (.bool b) := ⟨[], (repV_one rfl).2 ⟨rfl, rfl⟩, Cov.nil _ _ _, by simp⟩
theorem dok_str (pr : Bool) (re : List Nat) (s : ByteArray) : DOK w g ob pr re (.str s) (.string s) := ⟨[], (repV_one rfl).2 ⟨rfl, rfl⟩, Cov.nil _ _ _, by simp⟩

theorem int_of {pr : Bool} {re : List Nat} {k : IntKind} {n : Int} {v : Value} (h : DOK w g ob pr re (.int k n) v) : v = .int k n := by
  obtain ⟨bs, h, _⟩ := h
  have := (repV_one (x := .int k n) rfl).1 h
  obtain ⟨h, _⟩ := this; injection h
theorem bool_of {pr : Bool} {re : List Nat} {b : Bool} {v : Value} (h : DOK w g ob pr re (.bool b) v) : v = .bool b := by
  obtain ⟨bs, h, _⟩ := h
  have := (repV_one (x := .bool b) rfl).1 h
  obtain ⟨h, _⟩ := this; injection h
theorem str_of {pr : Bool} {re : List Nat} {s : ByteArray} {v : Value} (h : DOK w g ob pr re (.str s) v) : v = .string s := by
  obtain ⟨bs, h, _⟩ := h
  have := (repV_one (x := .str s) rfl).1 h
  obtain ⟨h, _⟩ := this; injection h

theorem vInt_sound {s : SV} {v : Value} {K : IntKind → Int → Prop} (h : vInt s K) (hs : SVok w g ob s v) : ∃ k n, v = .int k n ∧ K k n := by
  unfold vInt at h
  split at h
  · exact ⟨_, _, int_of hs, h⟩
  · exact h.elim
theorem vBool_sound {s : SV} {v : Value} {K : Bool → Prop} (h : vBool s K) (hs : SVok w g ob s v) : ∃ b, v = .bool b ∧ K b := by
  unfold vBool at h
  split at h
  · exact ⟨_, bool_of hs, h⟩
  · exact h.elim
theorem onBool_sound {b : Bool} {K : Bool → Prop} (h : onBool b K) : K b := by cases b; exact h.2 rfl; exact h.1 rfl

theorem binI_sound {op : BinOp} {k : IntKind} {a b : Int} {K : D → Prop} (h : binI op k a b K) (t : Nat) (hop : op ≠ .shl ∧ op ≠ .shr) :
    ∃ r, K r ∧ ∃ v, (binOp op t (.int k a) (.int k b)).run P w = .ok v w ∧ ∀ pr re, DOK w g ob pr re r v := by
  cases op <;> simp only [binI] at h <;> first
    | exact h.elim
    | exact absurd rfl hop.1
    | exact absurd rfl hop.2
    | (refine ⟨_, h, _, ?_, fun pr re => dok_int ..⟩; simp [binOp, Op.intArith, Op.intBits, bitI]; done)
    | (refine ⟨_, h, _, ?_, fun pr re => dok_bool ..⟩; simp [binOp, Op.intCmp, bne, BEq.beq]; done)
    | (refine ⟨_, h.2, _, ?_, fun pr re => dok_int ..⟩; simp [binOp, Op.intDiv, h.1]; done)

theorem binS_sound {op : BinOp} {a b : ByteArray} {K : D → Prop} (h : binS op a b K) (t : Nat) :
    ∃ r, K r ∧ ∃ v, (binOp op t (.string a) (.string b)).run P w = .ok v w ∧ ∀ pr re, DOK w g ob pr re r v := by
  cases op <;> simp only [binS] at h <;> first
    | exact h.elim
    | (refine ⟨_, h, _, ?_, fun pr re => dok_bool ..⟩; simp [binOp, Op.stringOp, toList_eq, strLt]; done)
    | skip
  refine ⟨_, h.2, _, ?_, fun pr re => dok_str ..⟩
  have h1 := h.1
  simp only [binOp, Op.stringOp]
  rw [if_neg (by simp [IntKind.max, IntKind.signed, IntKind.bits]; omega)]
  rfl

theorem run_equalIn_bool (d : Nat) {t : Nat} (hu : P.underlying t = some .bool) (a b : Bool) (w : World) : (Op.equalIn (d + 1) t (.bool a) (.bool b)).run P w = .ok (a == b) w := by
  simp [Op.equalIn, run_underlying hu]
theorem run_equal_bool {t : Nat} (hu : P.underlying t = some .bool) (a b : Bool) (w : World) : (Op.equal t (.bool a) (.bool b)).run P w = .ok (a == b) w := by
  unfold Op.equal Op.maxDepth
  exact run_equalIn_bool 9999 hu a b w
theorem eqGuard_int (op : BinOp) (t : Nat) (x y : Operand) (k k' : IntKind) (a b : Int) (w : World) : (eqGuard op t x y (.int k a) (.int k' b)).run P w = .ok () w := by unfold eqGuard; cases op <;> simp
theorem eqGuard_str (op : BinOp) (t : Nat) (x y : Operand) (a b : ByteArray) (w : World) : (eqGuard op t x y (.string a) (.string b)).run P w = .ok () w := by unfold eqGuard; cases op <;> simp
theorem eqGuard_bool (op : BinOp) (t : Nat) (x y : Operand) (a b : Bool) (w : World) : (eqGuard op t x y (.bool a) (.bool b)).run P w = .ok () w := by unfold eqGuard; cases op <;> simp

theorem binB_sound {op : BinOp} {t : Nat} {a b : Bool} {K : D → Prop} (hu : P.underlying t = some .bool) (h : match op with | .eql => K (.bool (a == b)) | .neq => K (.bool (a != b)) | _ => False) :
    ∃ r, K r ∧ ∃ v, (binOp op t (.bool a) (.bool b)).run P w = .ok v w ∧ ∀ pr re, DOK w g ob pr re r v := by
  cases op <;> simp only at h <;> first
    | exact h.elim
    | (refine ⟨_, h, _, ?_, fun pr re => dok_bool ..⟩
       simp only [binOp, Sem.run_bind, run_equal_bool hu, Result.andThen_ok]; rfl)

theorem evBin_sound {op : BinOp} {t : Nat} {s s' : SV} {x y : Operand} {v v' : Value} {K : D → Prop} (h : evBin P op t s s' K) (hs : SVok w g ob s v) (hs' : SVok w g ob s' v') :
    ∃ r, K r ∧ ∃ u, (do eqGuard op t x y v v'; binOp op t v v' : Sem Value).run P w = .ok u w ∧ ∀ pr re, DOK w g ob pr re r u := by
  unfold evBin at h
  split at h
  case h_2 => exact h.elim
  rename_i a b
  unfold binD at h
  split at h
  case h_4 => exact h.elim
  · obtain ⟨rfl, h⟩ := h
    have e1 := int_of hs; have e2 := int_of hs'; subst e1; subst e2
    by_cases hop : op ≠ .shl ∧ op ≠ .shr
    · obtain ⟨r, hk, u, hr, hd⟩ := binI_sound (P := P) (w := w) (g := g) (ob := ob) h t hop
      refine ⟨r, hk, u, ?_, hd⟩
      simp only [Sem.run_bind, eqGuard_int, Result.andThen_ok, hr]
    · exfalso
      cases op <;> simp_all [binI]
  · have e1 := str_of hs; have e2 := str_of hs'; subst e1; subst e2
    obtain ⟨r, hk, u, hr, hd⟩ := binS_sound (P := P) (w := w) (g := g) (ob := ob) h t
    refine ⟨r, hk, u, ?_, hd⟩
    simp only [Sem.run_bind, eqGuard_str, Result.andThen_ok, hr]
  · have e1 := bool_of hs; have e2 := bool_of hs'; subst e1; subst e2
    obtain ⟨r, hk, u, hr, hd⟩ := binB_sound (P := P) (w := w) (g := g) (ob := ob) h.1 h.2
    refine ⟨r, hk, u, ?_, hd⟩
    simp only [Sem.run_bind, eqGuard_bool, Result.andThen_ok, hr]

theorem evUn_sound {op : UnOp} {s : SV} {v : Value} {K : D → Prop} (h : evUn op s K) (hs : SVok w g ob s v) :
    ∃ r, K r ∧ ∃ u, (Op.unary op v).run P w = .ok u w ∧ ∀ pr re, DOK w g ob pr re r u := by
  unfold evUn at h
  split at h
  case h_3 => exact h.elim
  · have e := bool_of hs; subst e
    cases op <;> simp only at h <;> first | exact h.elim | exact ⟨_, h, _, rfl, fun pr re => dok_bool ..⟩
  · have e := int_of hs; subst e
    cases op <;> simp only at h <;> first | exact h.elim | exact ⟨_, h, _, rfl, fun pr re => dok_int ..⟩

/-- A slice's datum. -/
theorem list_of {pr : Bool} {re : List Nat} {x : D} {v : Value} (hx : x.isL = true) (h : DOK w g ob pr re x v) :
    ∃ n f A c bs, x.llen = n ∧ (∀ i, x.lget i = f i) ∧ v = .slice A n c ∧ n ≤ c ∧ RepB w (.list n f) [v] bs ∧ Cov g pr re bs ∧ ∀ b ∈ bs, ¬ Mut g ob b := by
  obtain ⟨bs, h, hc, hm⟩ := h
  cases x <;> simp [D.isL] at hx
  · rename_i n f
    have h' := (repV_one (x := .list n f) rfl).1 h
    obtain ⟨A, c, e, hn, hh⟩ := h'
    injection e with e
    subst e
    exact ⟨n, f, A, c, bs, rfl, fun _ => rfl, rfl, hn, ⟨A, c, rfl, hn, hh⟩, hc, hm⟩
  · have h' := (repV_one (x := .nils) rfl).1 h
    obtain ⟨e, rfl⟩ := h'
    injection e with e
    subst e
    exact ⟨0, fun _ => .anil, none, 0, [], rfl, fun _ => rfl, rfl, Nat.le_refl _, ⟨none, 0, rfl, Nat.le_refl _, .inl ⟨rfl, rfl⟩⟩, Cov.nil _ _ _, by simp⟩

/-- An element of it. -/
theorem list_at {pr : Bool} {re : List Nat} {n : Nat} {f : Nat → D} {A : Option Addr} {c : Nat} {bs : List Nat} (h : RepB w (.list n f) [.slice A n c] bs) (hc : Cov g pr re bs) (hm : ∀ b ∈ bs, ¬ Mut g ob b)
    (i : Nat) (hi : i < n) : ∃ ad, A = some ad ∧ SVok w g ob (.ea pr re (f i)) (.pointer (some (ad.add (i * (f i).sz)))) := by
  obtain ⟨A', c', e, hn, h⟩ := h
  injection e with e _
  injection e with e1 e2 e3
  subst e1
  rcases h with ⟨h0, _⟩ | ⟨h0, ad, sz, bf, rfl, hsz, rfl, hall⟩
  · omega
  · obtain ⟨ci, h1, h2, h3⟩ := hall i hi
    refine ⟨ad, rfl, ad.add (i * (f i).sz), ci, bf i, rfl, h1, ?_, by omega, ?_, ?_, ?_, ?_⟩
    · have : (f i).sz = sz := by rw [← h1.len]; exact h2
      rw [this]
      intro j v hj
      have := h3 j v hj
      rw [add_add]; simpa using this
    · have hsplit : ∃ l r, (List.range n).flatMap bf = l ++ (bf i ++ r) := by
        have : List.range n = List.range i ++ (i :: List.range' (i + 1) (n - i - 1)) := by
          rw [List.range_eq_range', List.range_eq_range', ← List.range'_succ, show n - i - 1 + 1 = n - i by omega]
          have := List.range'_append_1 (s := 0) (m := i) (n := n - i)
          rw [Nat.zero_add] at this
          rw [this]; congr 1; omega
        exact ⟨(List.range i).flatMap bf, (List.range' (i + 1) (n - i - 1)).flatMap bf, by rw [this]; simp⟩
      obtain ⟨l, r, e⟩ := hsplit
      refine hc.sub (b2 := ad.block :: (l ++ r)) ?_
      rw [e]
      have : (bf i ++ ad.block :: (l ++ r)).Perm (ad.block :: (bf i ++ (l ++ r))) := List.perm_middle
      refine this.trans (List.Perm.cons _ ?_)
      rw [← List.append_assoc, ← List.append_assoc]
      exact List.Perm.append_right r List.perm_append_comm
    · intro b hb
      exact hm b (List.mem_cons_of_mem _ (List.mem_flatMap.2 ⟨i, List.mem_range.2 hi, hb⟩))
    · rw [add_block]; exact hm _ (List.mem_cons_self ..)
    · rw [add_block]; exact hc.1 _ (List.mem_cons_self ..)

theorem slOf_spec {t e : Nat} (h : slOf P t = some e) : P.underlying t = some (.slice e) := by
  unfold slOf at h; split at h <;> simp_all

theorem run_indexAt' {t e sz : Nat} (ht : slOf P t = some e) (hs : szOf P e = some sz) (ad : Addr) (n c : Nat) (k : IntKind) (i : Int) (h0 : 0 ≤ i) (h1 : i < n) :
    (Instr.indexAt t (.slice (some ad) n c) (.int k i)).run P w = .ok (.pointer (some (ad.add (i.toNat * sz)))) w := by
  simp [Instr.indexAt, asIntOf, run_underlying (slOf_spec ht), run_sizeOf' hs, h0, h1]

theorem evIdx_sound {t : Nat} {s : SV} {v : Value} {k : IntKind} {i : Int} {K : SV → Prop} (hw : ∀ id o, ob id = some o → ObOK w g ob id o) (h : evIdx P t s ob i K) (hs : SVok w g ob s v) :
    ∃ r, K r ∧ ∃ u, (Instr.indexAt t v (.int k i)).run P w = .ok u w ∧ SVok w g ob r u := by
  unfold evIdx at h
  split at h
  · obtain ⟨hL, h0, h1, ⟨e, he, hsz⟩, hk⟩ := h
    obtain ⟨n, f, A, c, bs, hn', hf, rfl, hn, hr, hc, hm⟩ := list_of hL hs
    rw [hn'] at h1; rw [hf] at hsz hk
    obtain ⟨ad, rfl, ha⟩ := list_at hr hc hm i.toNat (by omega)
    exact ⟨_, hk, _, run_indexAt' he hsz ad n c k i h0 h1, ha⟩
  · rename_i id ver
    obtain ⟨o, ho, hvb, hv⟩ := hs
    split at h
    · rename_i v' pr re x e sz ho'
      rw [ho'] at ho; injection ho with ho; subst ho
      obtain ⟨rfl, h0, h1, ht, hsz, hk⟩ := h
      have hob := hw _ _ ho'
      obtain ⟨n, f, rfl, _, hh⟩ := hob
      simp only [D.llen] at h1
      have hvv := hv rfl
      rcases hh with ⟨_, hz⟩ | ⟨b, cap, cur, bf, e1, e2, _⟩
      · omega
      · refine ⟨_, hk, _, by rw [hvv, e1]; exact run_indexAt' ht hsz _ n cap k i h0 h1, _, ho', hvb, ?_⟩
        intro pr' re' x' e' sz' eq
        injection eq with _ _ _ q1 q2 q3
        subst q1; subst q3
        exact ⟨b, n, cap, e1, by omega, rfl⟩
    · rename_i v' pr re x ho'
      rw [ho'] at ho; injection ho with ho; subst ho
      obtain ⟨rfl, hL, h0, h1, ⟨e, he, hsz⟩, hk⟩ := h
      have hob : DOK w g ob pr (id :: re) x (g.H id) := hw _ _ ho'
      have hvv := hv rfl
      rw [← hvv] at hob
      obtain ⟨n, f, A, c, bs, hn', hf, rfl, hn, hr, hc, hm⟩ := list_of hL hob
      rw [hn'] at h1; rw [hf] at hsz hk
      obtain ⟨ad, rfl, ha⟩ := list_at hr hc hm i.toNat (by omega)
      exact ⟨_, hk, _, run_indexAt' he hsz ad n c k i h0 h1, ha⟩
    · exact h.elim
  · exact h.elim

theorem evLen_sound {s : SV} {v : Value} {K : D → Prop} {t ty : Nat} (hw : ∀ id o, ob id = some o → ObOK w g ob id o) (h : evLen P t s ob K) (hs : SVok w g ob s v) :
    ∃ r, K r ∧ ∃ u, (Builtin.len_ #[t] ty #[v]).run P w = .ok u w ∧ ∀ pr re, DOK w g ob pr re r u := by
  have hslice : ∀ A n c, (slOf P t).isSome = true → v = .slice A n c → (Builtin.len_ #[t] ty #[v]).run P w = .ok (goInt n) w := by
    intro A n c hsl e
    subst e
    obtain ⟨el, hel⟩ := Option.isSome_iff_exists.1 hsl
    simp [Builtin.len_, run_underlying (slOf_spec hel)]
  unfold evLen at h
  split at h
  · have e := str_of hs; subst e
    have := h.1
    unfold stOf at this
    split at this
    · rename_i hu; exact ⟨_, h.2, _, by simp [Builtin.len_, run_underlying hu]; rfl, fun pr re => dok_int ..⟩
    · cases this
  · obtain ⟨n, f, A, c, bs, hn', hf, rfl, _⟩ := list_of h.1 hs
    have hk := h.2.2
    rw [hn'] at hk
    exact ⟨_, hk, _, hslice _ _ _ h.2.1 rfl, fun pr re => dok_int ..⟩
  · obtain ⟨o, ho, _, hv⟩ := hs
    obtain ⟨hsl, h⟩ := h
    split at h
    · rename_i v' pr re x e sz ho'
      rw [ho'] at ho; injection ho with ho; subst ho
      obtain ⟨rfl, hk⟩ := h
      have hvv := hv rfl
      obtain ⟨n, f, rfl, _, hh⟩ := hw _ _ ho'
      rcases hh with ⟨e1, rfl⟩ | ⟨b, cap, cur, bf, e1, _⟩
      · exact ⟨_, hk, _, hslice _ _ _ hsl (hvv.trans e1), fun pr re => dok_int ..⟩
      · exact ⟨_, hk, _, hslice _ _ _ hsl (hvv.trans e1), fun pr re => dok_int ..⟩
    · rename_i v' pr re x ho'
      rw [ho'] at ho; injection ho with ho; subst ho
      obtain ⟨rfl, hL, hk⟩ := h
      have hvv := hv rfl
      have hob : DOK w g ob pr (_ :: re) x (g.H _) := hw _ _ ho'
      rw [← hvv] at hob
      obtain ⟨n, f, A, c, bs, hn', hf, e1, _⟩ := list_of hL hob
      rw [hn'] at hk
      exact ⟨_, hk, _, hslice _ _ _ hsl e1, fun pr re => dok_int ..⟩
    · exact h.elim
  · exact h.elim

theorem cells_of_block {w : World} {b : Nat} {cs : List Value} {t : Nat} {fr : Nat × Nat} (h : w.heap[b]? = some (.cells cs.toArray t fr)) : CellsAt w ⟨b, 0, none⟩ 0 cs := by
  intro j v hj
  rw [Nat.zero_add]
  have : (⟨b, 0, none⟩ : Addr).add j = ⟨b, j, none⟩ := by unfold Addr.add; split <;> simp_all
  rw [this]
  simp [World.cell?, h, hj]

theorem evLoad_sound {t : Nat} {s : SV} {v : Value} {K : SV → Prop} (hw : ∀ id o, ob id = some o → ObOK w g ob id o) (h : evLoad P t s ob K) (hs : SVok w g ob s v) :
    ∃ r, K r ∧ ∃ u, (Instr.loadAt t v).run P w = .ok u w ∧ SVok w g ob r u := by
  have repR : ∀ {x : D} {u : Value} {bs : List Nat} {ci : List Value}, RepB w x ci bs → RepV w x u bs → RepR w x u bs := by
    intro x u bs ci hb h
    cases x <;> first | exact h | exact hb.elim
  unfold evLoad at h
  split at h
  · obtain ⟨ad, cs, bs, rfl, h1, h2, h3, h4, h5, h6, h7⟩ := hs
    obtain ⟨u, hu, hr⟩ := run_loadVar' h.1 h1 h2
    exact ⟨_, h.2, u, by simpa [Instr.loadAt, Instr.sureAddr] using hu, bs, repR h1 hr, h4, h5⟩
  · obtain ⟨o, ho, hv⟩ := hs
    split at h
    · rename_i pr re x t' ho'
      rw [ho'] at ho; injection ho with ho; subst ho
      obtain rfl := hv rfl
      obtain ⟨b, cs, bs, e1, e2, e3, h1, h2, h3, h4⟩ := hw _ _ ho'
      obtain ⟨u, hu, hr⟩ := run_loadVar' h.1 h1 (cells_of_block e3)
      exact ⟨_, h.2, u, by rw [e1]; simpa [Instr.loadAt, Instr.sureAddr] using hu, bs, repR h1 hr, h3, h4⟩
    · exact h.elim
  · rename_i id off
    obtain ⟨o, ho, hv⟩ := hs
    split at h
    · rename_i pr re x t' ho'
      rw [ho'] at ho; injection ho with ho; subst ho
      obtain ⟨b, f, e1, rfl, rfl⟩ := hv _ _ _ _ rfl
      obtain ⟨b', cs, bs, e1', e2, e3, h1, h2, h3, h4⟩ := hw _ _ ho'
      rw [e1] at e1'; injection e1' with e1'; injection e1' with e1'; injection e1' with e1'; subst e1'
      obtain ⟨h0, hl, hk⟩ := h
      obtain ⟨c, b1, b2, a1, a2, l, r, rfl, a3⟩ := h1.at_ off h0
      have hcell := (cells_of_block e3).mid
      rw [a3] at hcell
      obtain ⟨u, hu, hr⟩ := run_loadVar' hl a1 hcell
      exact ⟨_, hk, u, by simpa [Instr.loadAt, Instr.sureAddr] using hu, b1, repR a1 hr, h3.sub a2, fun q hq => h4 q (a2.subset (List.mem_append.2 (.inl hq)))⟩
    · exact h.elim
  · rename_i id ver i
    obtain ⟨o, ho, _, hv⟩ := hs
    split at h
    · rename_i v' pr re x e sz ho'
      rw [ho'] at ho; injection ho with ho; subst ho
      obtain ⟨rfl, hl, hk⟩ := h
      obtain ⟨b, n, cap, e1, hi, rfl⟩ := hv _ _ _ _ _ rfl
      obtain ⟨n', f, rfl, hsz, hh⟩ := hw _ _ ho'
      rcases hh with ⟨q, _⟩ | ⟨b', cap', cur, bf, q1, q2, q3, q4, q5, q6, q7, q8⟩
      · rw [q] at e1; cases e1
      · rw [q1] at e1; injection e1 with e1 e2 e3; injection e1 with e1; injection e1 with e1; subst e1; subst e2
        obtain ⟨ci, a1, a2, a3⟩ := q7 i hi
        have hcell : CellsAt w ((⟨b', 0, none⟩ : Addr).add (i * sz)) 0 ci := by
          intro j u hj
          rw [add_add, Nat.zero_add]
          have : (⟨b', 0, none⟩ : Addr).add (i * sz + j) = ⟨b', i * sz + j, none⟩ := by unfold Addr.add; split <;> simp_all
          rw [this]
          simp only [World.cell?, q3]
          exact a3 j u hj
        obtain ⟨u, hu, hr⟩ := run_loadVar' (x := f i) hl a1 hcell
        refine ⟨_, hk, u, by simpa [Instr.loadAt, Instr.sureAddr] using hu, bf i, repR a1 hr, ?_, fun q hq => q8 i hi q hq⟩
        have hsplit : ∃ l r, (List.range n').flatMap bf = l ++ (bf i ++ r) := by
          have : List.range n' = List.range i ++ (i :: List.range' (i + 1) (n' - i - 1)) := by
            rw [List.range_eq_range', List.range_eq_range', ← List.range'_succ, show n' - i - 1 + 1 = n' - i by omega]
            have := List.range'_append_1 (s := 0) (m := i) (n := n' - i)
            rw [Nat.zero_add] at this
            rw [this]; congr 1; omega
          exact ⟨(List.range i).flatMap bf, (List.range' (i + 1) (n' - i - 1)).flatMap bf, by rw [this]; simp⟩
        obtain ⟨l, r, e⟩ := hsplit
        refine q6.sub (b2 := l ++ r) ?_
        rw [e, ← List.append_assoc, ← List.append_assoc]
        exact List.Perm.append_right r List.perm_append_comm
    · exact h.elim
  · rename_i pr re x
    obtain ⟨bs, hr, hc, hm⟩ := hs
    have hr' := (repV_one (x := .ref x) rfl).1 hr
    obtain ⟨ad, c, b, e, rfl, h1, h2, h3⟩ := hr'
    injection e with e; subst e
    obtain ⟨u, hu, hr⟩ := run_loadVar' h.1 h1 h3
    exact ⟨_, h.2, u, by simpa [Instr.loadAt, Instr.sureAddr] using hu, b, repR h1 hr, hc.sub (b2 := [ad.block]) (List.perm_append_comm.trans (List.Perm.refl _)), fun q hq => hm q (List.mem_cons_of_mem _ hq)⟩
  · exact h.elim
end Go.Proofs.Ytomhkcemkapmpaa
