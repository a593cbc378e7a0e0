/- A step that changes no memory comes to ONE result, and comes to it under more objects as well. For every world: no condition. -/
import Derived.Test.YtomhkcemkapmpaaDp
namespace Go.Proofs.Ytomhkcemkapmpaa
open Go Go.RowKit
set_option linter.unusedVariables false
set_option linter.unusedSimpArgs false

section
variable {P : Program} {Z : Nat → Option D} {J : World → Prop} {ob : Nat → Option Ob} {id : Nat}

theorem vInt_ang {s : SV} {K : IntKind → Int → Prop} (h : vInt s K) : ∃ k n, K k n ∧ ∀ K' : IntKind → Int → Prop, K' k n → vInt s K' := by
  unfold vInt at *; split at h
  · exact ⟨_, _, h, fun K' hk => hk⟩
  · exact h.elim
theorem vBool_ang {s : SV} {K : Bool → Prop} (h : vBool s K) : ∃ b, K b ∧ ∀ K' : Bool → Prop, K' b → vBool s K' := by
  unfold vBool at *; split at h
  · exact ⟨_, h, fun K' hk => hk⟩
  · exact h.elim
theorem onBool_ang {b : Bool} {K : Bool → Prop} (h : onBool b K) : K b ∧ ∀ K' : Bool → Prop, K' b → onBool b K' := by
  cases b
  · exact ⟨h.2 rfl, fun K' hk => ⟨fun e => (by cases e), fun _ => hk⟩⟩
  · exact ⟨h.1 rfl, fun K' hk => ⟨fun _ => hk, fun e => (by cases e)⟩⟩
theorem asD_ang {s : SV} {K : Bool → List Nat → D → Prop} (h : asD s K) : ∃ p r x, K p r x ∧ ∀ K' : Bool → List Nat → D → Prop, K' p r x → asD s K' := by
  unfold asD at *; split at h
  · exact h.elim
  · exact ⟨_, _, _, h, fun K' hk => hk⟩
  · exact ⟨_, _, _, h, fun K' hk => hk⟩
  · exact h.elim
theorem addR_ang {x : D} {p p0 : Bool} {r r0 : List Nat} {K : Bool → List Nat → Prop} (h : addR x p r p0 r0 K) : ∃ p' r', K p' r' ∧ ∀ K' : Bool → List Nat → Prop, K' p' r' → addR x p r p0 r0 K' := by
  unfold addR at *; split at h
  · rename_i hc; exact ⟨_, _, h, fun K' hk => by rw [if_pos hc]; exact hk⟩
  · rename_i hc; exact ⟨_, _, h, fun K' hk => by rw [if_neg hc]; exact hk⟩
theorem evFill_ang {pl : List (Nat × Nat)} : ∀ {parts : List (Nat × SV)} {z : D} {pr : Bool} {re : List Nat} {K : SV → Prop}, evFill pl z pr re parts K → ∃ r, K r ∧ ∀ K' : SV → Prop, K' r → evFill pl z pr re parts K'
  | [], _, _, _, _, h => ⟨_, h, fun _ hk => hk⟩
  | (k, s) :: rest, z, pr, re, K, h => by
    obtain ⟨p, r, x, ⟨h1, h2⟩, h3⟩ := asD_ang (s := s) h
    obtain ⟨p', r', h4, h5⟩ := addR_ang h2
    obtain ⟨q, h6, h7⟩ := evFill_ang h4
    exact ⟨q, h6, fun K' hk => h3 _ ⟨h1, h5 _ (h7 _ hk)⟩⟩
theorem evElems_ang {sz : Nat} : ∀ {parts : List (Nat × SV)} {i : Nat} {pr : Bool} {re : List Nat} {xs : List D} {K : Bool → List Nat → List D → Prop}, evElems sz i parts pr re xs K →
    ∃ p r ys, K p r ys ∧ ∀ K' : Bool → List Nat → List D → Prop, K' p r ys → evElems sz i parts pr re xs K'
  | [], _, _, _, _, _, h => ⟨_, _, _, h, fun _ hk => hk⟩
  | (k, s) :: rest, i, pr, re, xs, K, h => by
    obtain ⟨h0, h⟩ := h
    obtain ⟨p, r, x, ⟨h1, h2⟩, h3⟩ := asD_ang (s := s) h
    obtain ⟨p', r', h4, h5⟩ := addR_ang h2
    obtain ⟨a, b, c, h6, h7⟩ := evElems_ang h4
    exact ⟨a, b, c, h6, fun K' hk => ⟨h0, h3 _ ⟨h1, h5 _ (h7 _ hk)⟩⟩⟩
theorem binI_ang {op : BinOp} {k : IntKind} {a b : Int} {K : D → Prop} (h : binI op k a b K) : ∃ r, K r ∧ ∀ K' : D → Prop, K' r → binI op k a b K' := by
  cases op <;> first | exact ⟨_, h, fun _ hk => hk⟩ | exact ⟨_, h.2, fun _ hk => ⟨h.1, hk⟩⟩ | exact h.elim
theorem binS_ang {op : BinOp} {a b : ByteArray} {K : D → Prop} (h : binS op a b K) : ∃ r, K r ∧ ∀ K' : D → Prop, K' r → binS op a b K' := by
  cases op <;> first | exact ⟨_, h, fun _ hk => hk⟩ | exact ⟨_, h.2, fun _ hk => ⟨h.1, hk⟩⟩ | exact h.elim
theorem binD_ang {op : BinOp} {t : Nat} {x y : D} {K : D → Prop} (h : binD P op t x y K) : ∃ r, K r ∧ ∀ K' : D → Prop, K' r → binD P op t x y K' := by
  unfold binD at *; split at h
  · obtain ⟨h1, h2⟩ := h
    obtain ⟨r, h3, h4⟩ := binI_ang h2
    exact ⟨r, h3, fun K' hk => ⟨h1, h4 _ hk⟩⟩
  · obtain ⟨r, h3, h4⟩ := binS_ang h
    exact ⟨r, h3, fun K' hk => h4 _ hk⟩
  · obtain ⟨h1, h2⟩ := h
    cases op <;> first | exact ⟨_, h2, fun _ hk => ⟨h1, hk⟩⟩ | exact h2.elim
  · exact h.elim
theorem evBin_ang {op : BinOp} {t : Nat} {x y : SV} {K : D → Prop} (h : evBin P op t x y K) : ∃ r, K r ∧ ∀ K' : D → Prop, K' r → evBin P op t x y K' := by
  unfold evBin at *; split at h
  · obtain ⟨r, h3, h4⟩ := binD_ang h
    exact ⟨r, h3, fun K' hk => h4 _ hk⟩
  · exact h.elim
theorem evUn_ang {op : UnOp} {x : SV} {K : D → Prop} (h : evUn op x K) : ∃ r, K r ∧ ∀ K' : D → Prop, K' r → evUn op x K' := by
  unfold evUn at *; split at h
  · cases op <;> first | exact ⟨_, h, fun _ hk => hk⟩ | exact h.elim
  · cases op <;> first | exact ⟨_, h, fun _ hk => hk⟩ | exact h.elim
  · exact h.elim
theorem evLen_ang {t : Nat} {x : SV} {K : D → Prop} (h : evLen P t x ob K) : ∃ r, K r ∧ ∀ ob' (K' : D → Prop), Sub ob ob' → K' r → evLen P t x ob' K' := by
  unfold evLen at *; split at h
  · exact ⟨_, h.2, fun _ K' _ hk => ⟨h.1, hk⟩⟩
  · exact ⟨_, h.2.2, fun _ K' _ hk => ⟨h.1, h.2.1, hk⟩⟩
  · obtain ⟨h0, h⟩ := h
    split at h
    · rename_i ho; exact ⟨_, h.2, fun ob' K' hs hk => ⟨h0, by rw [hs _ _ ho]; exact ⟨h.1, hk⟩⟩⟩
    · rename_i ho; exact ⟨_, h.2.2, fun ob' K' hs hk => ⟨h0, by rw [hs _ _ ho]; exact ⟨h.1, h.2.1, hk⟩⟩⟩
    · exact h.elim
  · exact h.elim
theorem evIdx_ang {t : Nat} {x : SV} {n : Int} {K : SV → Prop} (h : evIdx P t x ob n K) : ∃ r, K r ∧ ∀ ob' (K' : SV → Prop), Sub ob ob' → K' r → evIdx P t x ob' n K' := by
  unfold evIdx at *; split at h
  · obtain ⟨h1, h2, h3, h4, h5⟩ := h; exact ⟨_, h5, fun _ K' _ hk => ⟨h1, h2, h3, h4, hk⟩⟩
  · split at h
    · rename_i ho; obtain ⟨h1, h2, h3, h4, h5, h6⟩ := h; exact ⟨_, h6, fun ob' K' hs hk => by rw [hs _ _ ho]; exact ⟨h1, h2, h3, h4, h5, hk⟩⟩
    · rename_i ho; obtain ⟨h1, h2, h3, h4, h5, h6⟩ := h; exact ⟨_, h6, fun ob' K' hs hk => by rw [hs _ _ ho]; exact ⟨h1, h2, h3, h4, h5, hk⟩⟩
    · exact h.elim
  · exact h.elim
theorem evLoad_ang {t : Nat} {x : SV} {K : SV → Prop} (h : evLoad P t x ob K) : ∃ r, K r ∧ ∀ ob' (K' : SV → Prop), Sub ob ob' → K' r → evLoad P t x ob' K' := by
  unfold evLoad at *; split at h
  · exact ⟨_, h.2, fun _ K' _ hk => ⟨h.1, hk⟩⟩
  · split at h
    · rename_i ho; exact ⟨_, h.2, fun ob' K' hs hk => by rw [hs _ _ ho]; exact ⟨h.1, hk⟩⟩
    · exact h.elim
  · split at h
    · rename_i ho; exact ⟨_, h.2.2, fun ob' K' hs hk => by rw [hs _ _ ho]; exact ⟨h.1, h.2.1, hk⟩⟩
    · exact h.elim
  · split at h
    · rename_i ho; exact ⟨_, h.2.2, fun ob' K' hs hk => by rw [hs _ _ ho]; exact ⟨h.1, h.2.1, hk⟩⟩
    · exact h.elim
  · exact ⟨_, h.2, fun _ K' _ hk => ⟨h.1, hk⟩⟩
  · exact h.elim
theorem fdOK_ang {t k : Nat} {K : Nat → Prop} (h : fdOK P t k K) : ∃ r, K r ∧ ∀ K' : Nat → Prop, K' r → fdOK P t k K' := by
  obtain ⟨o, ty, n, h1, h2, h3⟩ := h
  exact ⟨o, h3, fun K' hk => ⟨o, ty, n, h1, h2, hk⟩⟩
theorem evFieldAddr_ang {t k : Nat} {x : SV} {K : SV → Prop} (h : evFieldAddr P t k x ob K) : ∃ r, K r ∧ ∀ ob' (K' : SV → Prop), Sub ob ob' → K' r → evFieldAddr P t k x ob' K' := by
  unfold evFieldAddr at *; split at h
  · split at h
    · rename_i ho; obtain ⟨r, h1, h2⟩ := fdOK_ang h; exact ⟨_, h1, fun ob' K' hs hk => by rw [hs _ _ ho]; exact h2 _ hk⟩
    · exact h.elim
  · split at h
    · rename_i ho; obtain ⟨r, h1, h2⟩ := fdOK_ang h; exact ⟨_, h1, fun ob' K' hs hk => by rw [hs _ _ ho]; exact h2 _ hk⟩
    · exact h.elim
  · obtain ⟨r, ⟨h0, h1⟩, h2⟩ := fdOK_ang h; exact ⟨_, h1, fun ob' K' hs hk => h2 _ ⟨h0, hk⟩⟩
  · obtain ⟨r, ⟨h0, h1⟩, h2⟩ := fdOK_ang h; exact ⟨_, h1, fun ob' K' hs hk => h2 _ ⟨h0, hk⟩⟩
  · exact h.elim
theorem evField_ang {t k : Nat} {x : SV} {K : SV → Prop} (h : evField P t k x K) : ∃ r, K r ∧ ∀ K' : SV → Prop, K' r → evField P t k x K' := by
  unfold evField at *; split at h
  · obtain ⟨o, ty, h1, h2, h3, h4, h5, h6⟩ := h; exact ⟨_, h6, fun K' hk => ⟨o, ty, h1, h2, h3, h4, h5, hk⟩⟩
  · exact h.elim
theorem evExtract_ang {k : Nat} {x : SV} {K : SV → Prop} (h : evExtract k x K) : ∃ r, K r ∧ ∀ K' : SV → Prop, K' r → evExtract k x K' := by
  unfold evExtract at *; split at h
  · exact ⟨_, h.2, fun K' hk => ⟨h.1, hk⟩⟩
  · exact h.elim
theorem vBound_ang {s : Option SV} {n : Nat} {K : Int → Prop} (h : vBound s n K) : ∃ m, K m ∧ ∀ K' : Int → Prop, K' m → vBound s n K' := by
  unfold vBound at *; split at h
  · exact ⟨_, h, fun K' hk => hk⟩
  · exact ⟨_, h, fun K' hk => hk⟩
  · exact h.elim
theorem evSlice_ang {t : Nat} {x : SV} {lo hi : Option SV} {K : SV → Prop} (h : evSlice P t x lo hi K) : ∃ r, K r ∧ ∀ K' : SV → Prop, K' r → evSlice P t x lo hi K' := by
  unfold evSlice at *; split at h
  · obtain ⟨h0, h⟩ := h
    obtain ⟨m, h1, h2⟩ := vBound_ang h
    obtain ⟨l, ⟨h3, h4, h5, h6⟩, h7⟩ := vBound_ang h1
    exact ⟨_, h6, fun K' hk => ⟨h0, h2 _ (h7 _ ⟨h3, h4, h5, hk⟩)⟩⟩
  · obtain ⟨h0, h⟩ := h
    obtain ⟨m, h1, h2⟩ := vBound_ang h
    obtain ⟨l, ⟨h3, h4, h5, h6, h8, h9⟩, h7⟩ := vBound_ang h1
    exact ⟨_, h9, fun K' hk => ⟨h0, h2 _ (h7 _ ⟨h3, h4, h5, h6, h8, hk⟩)⟩⟩
  · exact h.elim
theorem evConv_ang {s t : Nat} {x : SV} {K : SV → Prop} (h : evConv P s t x K) : ∃ r, K r ∧ ∀ K' : SV → Prop, K' r → evConv P s t x K' := by
  unfold evConv at *; split at h
  · obtain ⟨k, h1, h2, h3⟩ := h; exact ⟨_, h3, fun K' hk => ⟨k, h1, h2, hk⟩⟩
  · exact ⟨_, h.2.2, fun K' hk => ⟨h.1, h.2.1, hk⟩⟩
  · exact h.elim
theorem resSV_ang {imm : Bool} {re : List Nat} {fl : Fl} {y : D} {K : SV → Prop} (h : resSV id imm re fl y K) : ∃ r, K r ∧ ∀ K' : SV → Prop, K' r → resSV id imm re fl y K' := by
  cases fl
  · exact ⟨_, h.2, fun K' hk => ⟨h.1, hk⟩⟩
  · exact ⟨_, h, fun K' hk => hk⟩
  · exact ⟨_, h, fun K' hk => hk⟩

mutual
theorem good_sub {ob' : Nat → Option Ob} (hs : Sub ob ob') : ∀ s : SV, s.good ob = true → s.good ob' = true ∧ s.view ob' = s.view ob
  | .d _ _ x, h => by cases x <;> first | exact ⟨rfl, rfl⟩ | cases h
  | .ea _ _ _, _ => ⟨rfl, rfl⟩
  | .own i v, h => by
    unfold SV.good SV.view at *
    split at h
    · rename_i ho; rw [hs _ _ ho]; exact ⟨h, rfl⟩
    · rename_i ho; rw [hs _ _ ho]; exact ⟨h, rfl⟩
    · cases h
  | .bx i, h => by
    unfold SV.good SV.view at *
    split at h
    · rename_i ho; rw [hs _ _ ho]; exact ⟨rfl, rfl⟩
    · cases h
  | .cl f caps, h => by
    unfold SV.good at h
    have := goodL_sub hs caps h
    unfold SV.good SV.view
    exact ⟨this.1, by rw [this.2]⟩
  | .oa _ _ _, h => by cases h
  | .bf _ _, h => by cases h
  | .cnil, h => by cases h
  | .ccons _ _, h => by cases h
  | .junk, h => by cases h
theorem goodL_sub {ob' : Nat → Option Ob} (hs : Sub ob ob') : ∀ s : SV, s.goodL ob = true → s.goodL ob' = true ∧ s.viewL ob' = s.viewL ob
  | .cnil, _ => ⟨rfl, rfl⟩
  | .ccons x r, h => by
    simp only [SV.goodL, Bool.and_eq_true] at h
    have h1 := good_sub hs x h.1.1
    have h2 := goodL_sub hs r h.2
    simp only [SV.goodL, SV.viewL, h1.1, h1.2, h2.1, h2.2, h.1.2, Bool.and_self, and_self]
  | .d _ _ _, h => by cases h
  | .ea _ _ _, h => by cases h
  | .own _ _, h => by cases h
  | .oa _ _ _, h => by cases h
  | .bx _, h => by cases h
  | .bf _ _, h => by cases h
  | .cl _ _, h => by cases h
  | .junk, h => by cases h
end
theorem args_sub {ob' : Nat → Option Ob} (hs : Sub ob ob') (caps : D) : ∀ l : List SV, l.all (·.good ob) = true → l.all (·.good ob') = true ∧ dargs ob' l caps = dargs ob l caps
  | [], _ => ⟨rfl, rfl⟩
  | s :: l, h => by
    simp only [List.all_cons, Bool.and_eq_true] at h
    have h1 := good_sub hs s h.1
    have h2 := args_sub hs caps l h.2
    simp only [List.all_cons, h1.1, h2.1, dargs, h1.2, h2.2, Bool.and_self, and_self]
theorem evCall_ang {f : SV} {args : List SV} {K : SV → Prop} (h : evCall P J ob id f args K) : ∃ r, K r ∧ ∀ ob' (K' : SV → Prop), Sub ob ob' → K' r → evCall P J ob' id f args K' := by
  unfold evCall at *; split at h
  · obtain ⟨h0, fl, y, h1, h2⟩ := h
    simp only [Bool.and_eq_true] at h0
    obtain ⟨r, h3, h4⟩ := resSV_ang h2
    refine ⟨r, h3, fun ob' K' hs hk => ?_⟩
    have a2 := goodL_sub hs _ h0.2
    have a1 := fun c => args_sub hs c args h0.1
    refine ⟨by rw [(a1 .anil).1, a2.1]; rfl, fl, y, ?_, h4 _ hk⟩
    rw [a2.2, (a1 _).2]; exact h1
  · obtain ⟨h0, fl, y, h1, h2⟩ := h
    obtain ⟨r, h3, h4⟩ := resSV_ang h2
    refine ⟨r, h3, fun ob' K' hs hk => ?_⟩
    have a1 := fun c => args_sub hs c args h0
    exact ⟨(a1 .anil).1, fl, y, by rw [(a1 _).2]; exact h1, h4 _ hk⟩
  · exact h.elim

theorem evNil_ang {x : SV} {K : SV → Prop} (h : evNil x ob K) : ∃ r, K r ∧ ∀ ob' (K' : SV → Prop), Sub ob ob' → K' r → evNil x ob' K' := by
  unfold evNil at *; split at h
  · exact ⟨_, h, fun _ K' _ hk => hk⟩
  · exact ⟨_, h, fun _ K' _ hk => hk⟩
  · split at h
    · rename_i ho; exact ⟨_, h, fun ob' K' hs hk => by simp only [hs _ _ ho]; exact hk⟩
    · exact h.elim
  · split at h
    · rename_i ho; exact ⟨_, h, fun ob' K' hs hk => by simp only [hs _ _ ho]; exact hk⟩
    · exact h.elim
  · exact h.elim
/-- ONE RESULT, UNDER MORE OBJECTS TOO. -/
theorem evP_ang {ρ : Operand → SV} {o : Op} {K : SV → Option Ob → Prop} (h : evP P Z J ob ρ id o K) : ∃ r nob, K r nob ∧ ∀ ob' (K' : SV → Option Ob → Prop), Sub ob ob' → K' r nob → evP P Z J ob' ρ id o K' := by
  cases o <;> simp only [evP] at h ⊢ <;> try exact h.elim
  case move x => exact ⟨_, _, h, fun _ K' _ hk => hk⟩
  case assign x => exact ⟨_, _, h, fun _ K' _ hk => hk⟩
  case pick c a b =>
    obtain ⟨b, h1, h2⟩ := vBool_ang h
    obtain ⟨h3, h4⟩ := onBool_ang h1
    exact ⟨_, _, h3, fun _ K' _ hk => h2 _ (h4 _ hk)⟩
  case alloc t =>
    obtain ⟨z, h1, h2, h3⟩ := h
    exact ⟨_, _, h3, fun _ K' _ hk => ⟨z, h1, h2, hk⟩⟩
  case box t x =>
    obtain ⟨p, r, x, ⟨h1, h2⟩, h3⟩ := asD_ang h
    exact ⟨_, _, h2, fun _ K' _ hk => h3 _ ⟨h1, hk⟩⟩
  case build t parts =>
    obtain ⟨z, pl, h1, h2, h3, h4⟩ := h
    obtain ⟨r, h5, h6⟩ := evFill_ang h4
    exact ⟨_, _, h5, fun _ K' _ hk => ⟨z, pl, h1, h2, h3, h6 _ hk⟩⟩
  case buildSlice t len parts =>
    obtain ⟨e, sz, h1, h2, h3, h4, h5, h6⟩ := h
    obtain ⟨p, r, xs, h7, h8⟩ := evElems_ang h6
    exact ⟨_, _, h7, fun _ K' _ hk => ⟨e, sz, h1, h2, h3, h4, h5, h8 _ hk⟩⟩
  case load t p =>
    obtain ⟨r, h1, h2⟩ := evLoad_ang h
    exact ⟨_, _, h1, fun _ K' hs hk => h2 _ _ hs hk⟩
  case nilCheck x =>
    obtain ⟨r, h1, h2⟩ := evNil_ang h
    exact ⟨_, _, h1, fun _ K' hs hk => h2 _ _ hs hk⟩
  case binOp op t x y t' =>
    obtain ⟨r, h1, h2⟩ := evBin_ang h
    exact ⟨_, _, h1, fun _ K' hs hk => h2 _ hk⟩
  case unOp op t x =>
    obtain ⟨r, h1, h2⟩ := evUn_ang h
    exact ⟨_, _, h1, fun _ K' hs hk => h2 _ hk⟩
  case convert s t x =>
    obtain ⟨r, h1, h2⟩ := evConv_ang h
    exact ⟨_, _, h1, fun _ K' hs hk => h2 _ hk⟩
  case makeFunc fn first caps =>
    cases fn <;> simp only at h ⊢ <;> first | exact h.elim | exact ⟨_, _, h.2, fun _ K' _ hk => ⟨h.1, hk⟩⟩
  case makeSlice t l c =>
    obtain ⟨k, n, h1, h2⟩ := vInt_ang h
    obtain ⟨k', m, ⟨a1, a2, a3, a4, e, z, b, b1, b2, b3, b4, b5, h3⟩, h4⟩ := vInt_ang h1
    exact ⟨_, _, h3, fun _ K' _ hk => h2 _ (h4 _ ⟨a1, a2, a3, a4, e, z, b, b1, b2, b3, b4, b5, hk⟩)⟩
  case slice t x lo hi mx =>
    cases mx with
    | some m => exact h.elim
    | none =>
      obtain ⟨r, h1, h2⟩ := evSlice_ang h
      exact ⟨_, _, h1, fun _ K' hs hk => h2 _ hk⟩
  case fieldAddr t x k =>
    obtain ⟨r, h1, h2⟩ := evFieldAddr_ang h
    exact ⟨_, _, h1, fun _ K' hs hk => h2 _ _ hs hk⟩
  case field t x k =>
    obtain ⟨r, h1, h2⟩ := evField_ang h
    exact ⟨_, _, h1, fun _ K' hs hk => h2 _ hk⟩
  case indexAddr t x i =>
    obtain ⟨k, n, h1, h2⟩ := vInt_ang h
    obtain ⟨r, h3, h4⟩ := evIdx_ang h1
    exact ⟨_, _, h3, fun _ K' hs hk => h2 _ (h4 _ _ hs hk)⟩
  case index t x i =>
    obtain ⟨k, n, h1, h2⟩ := vInt_ang h
    split at h1
    · rename_i hx
      obtain ⟨a1, a2, a3, a4⟩ := h1
      exact ⟨_, _, a4, fun _ K' hs hk => h2 _ (by first | exact ⟨a1, a2, a3, hk⟩ | (rw [hx]; exact ⟨a1, a2, a3, hk⟩))⟩
    · exact h1.elim
  case extract x k =>
    obtain ⟨r, h1, h2⟩ := evExtract_ang h
    exact ⟨_, _, h1, fun _ K' hs hk => h2 _ hk⟩
  case call c =>
    split at h
    · rename_i hc
      split at h
      · rename_i ha ht
        obtain ⟨r, h1, h2⟩ := evLen_ang h
        exact ⟨_, _, h1, fun _ K' hs hk => by first | exact h2 _ _ hs hk | (rw [hc]; simp only [ha, ht]; exact h2 _ _ hs hk)⟩
      · exact h.elim
    · rename_i hc
      obtain ⟨r, h1, h2⟩ := evCall_ang h
      exact ⟨_, _, h1, fun _ K' hs hk => by first | exact h2 _ _ hs hk | (rw [hc]; exact h2 _ _ hs hk)⟩
    · exact h.elim
end
end Go.Proofs.Ytomhkcemkapmpaa
