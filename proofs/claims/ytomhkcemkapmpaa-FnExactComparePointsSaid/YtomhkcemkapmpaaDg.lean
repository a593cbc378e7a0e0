/- The symbolic step of one operation that changes no memory of the frame's own: all kinds together, calls among them. For every world: no condition. -/
import Derived.Test.YtomhkcemkapmpaaDf
namespace Go.Proofs.Ytomhkcemkapmpaa
open Go Go.RowKit
set_option linter.unusedVariables false
set_option linter.unusedSimpArgs false

mutual
def SV.view (ob : Nat → Option Ob) : SV → D
  | .d _ _ x => x
  | .ea _ _ x => .ref x
  | .own id _ => (match ob id with | some (.arr _ _ _ x _ _) => x | some (.frz _ _ _ x) => x | _ => .anil)
  | .bx id => (match ob id with | some (.var _ _ x _) => .ref x | _ => .anil)
  | .cl f caps => .fn f (caps.viewL ob)
  | _ => .anil
def SV.viewL (ob : Nat → Option Ob) : SV → D
  | .ccons x r => .acons (x.view ob) (r.viewL ob)
  | _ => .anil
end
mutual
/-- It can be handed on as data now. -/
def SV.good (ob : Nat → Option Ob) : SV → Bool
  | .d _ _ (.tup _) => false
  | .d _ _ _ => true
  | .ea _ _ _ => true
  | .own id ver => (match ob id with | some (.arr v _ _ _ _ _) => v == ver | some (.frz v _ _ x) => v == ver && x.isL | _ => false)
  | .bx id => (match ob id with | some (.var _ _ _ _) => true | _ => false)
  | .cl _ caps => caps.goodL ob
  | _ => false
def SV.goodL (ob : Nat → Option Ob) : SV → Bool
  | .cnil => true
  | .ccons x r => x.good ob && !(x.view ob).isAgg && r.goodL ob
  | _ => false
end
def SV.imm : SV → Bool
  | .d _ _ _ => true
  | .ea _ _ _ => true
  | _ => false
def SV.rgs : SV → List Nat
  | .d _ re _ => re
  | .ea _ re _ => re
  | _ => []
def dargs (ob : Nat → Option Ob) : List SV → D → D
  | [], caps => caps
  | s :: r, caps => .acons (s.view ob) (dargs ob r caps)

def CallVC (P : Program) (J : World → Prop) (f : Nat) (args : D) (K : Fl → D → Prop) : Prop := ∃ fl y, Gives P J f fl args y ∧ K fl y
theorem CallVC.intro {P : Program} {J : World → Prop} {f : Nat} {args y : D} {K : Fl → D → Prop} {fl : Fl} (h : Gives P J f fl args y) (hk : K fl y) : CallVC P J f args K := ⟨fl, y, h, hk⟩
theorem CallVC.intro' {P : Program} {J : World → Prop} {f : Nat} {args args' y : D} {K : Fl → D → Prop} {fl : Fl} (h : Gives P J f fl args' y) (hs : D.sim args args') (hk : K fl y) : CallVC P J f args K :=
  ⟨fl, y, h.sim hs (D.sim_refl y), hk⟩
@[congr] theorem CallVC.congr {P : Program} {J : World → Prop} {f : Nat} {args args' : D} {K : Fl → D → Prop} (h : args = args') : CallVC P J f args K = CallVC P J f args' K := by rw [h]

def resSV (id : Nat) (imm : Bool) (re : List Nat) : Fl → D → (SV → Prop) → Prop
  | .sep, y, K => K (.d true [id] y)
  | .fresh, y, K => K (.d false [id] y)
  | .any, y, K => imm = true ∧ K (.d false (id :: re) y)

def evCall (P : Program) (J : World → Prop) (ob : Nat → Option Ob) (id : Nat) (f : SV) (args : List SV) (K : SV → Prop) : Prop :=
  match f with
  | .cl f caps => (args.all (·.good ob) && caps.goodL ob) = true ∧ CallVC P J f (dargs ob args (caps.viewL ob)) fun fl y =>
      resSV id (args.all (·.imm) && (match caps with | .cnil => true | _ => false)) (args.flatMap (·.rgs)) fl y K
  | .d _ re (.fn f caps) => (args.all (·.good ob)) = true ∧ CallVC P J f (dargs ob args caps) fun fl y => resSV id (args.all (·.imm)) (re ++ args.flatMap (·.rgs)) fl y K
  | _ => False

def evNil (s : SV) (ob : Nat → Option Ob) (K : SV → Prop) : Prop :=
  match s with
  | .d _ _ (.ref _) => K s
  | .ea _ _ _ => K s
  | .bx id => (match ob id with | some (.var _ _ _ _) => K s | _ => False)
  | .bf id _ => (match ob id with | some (.var _ _ _ _) => K s | _ => False)
  | _ => False

def evP (P : Program) (Z : Nat → Option D) (J : World → Prop) (ob : Nat → Option Ob) (ρ : Operand → SV) (id : Nat) (o : Op) (K : SV → Option Ob → Prop) : Prop :=
  match o with
  | .move x => K (ρ x) none
  | .assign x => K (ρ x) none
  | .pick c a b => vBool (ρ c) fun c => onBool c fun c' => K (if c' then ρ a else ρ b) none
  | .alloc t => evAlloc Z id t K
  | .box t x => evBox id t (ρ x) K
  | .build t parts => evBuild P Z t (parts.toList.map fun p => (p.1, ρ p.2)) fun r => K r none
  | .buildSlice t len parts => evBuildSlice P t len id (parts.toList.map fun p => (p.1, ρ p.2)) K
  | .load t p => evLoad P t (ρ p) ob fun r => K r none
  | .binOp op t x y _ => evBin P op t (ρ x) (ρ y) fun r => K (.d true [] r) none
  | .unOp op _ x => evUn op (ρ x) fun r => K (.d true [] r) none
  | .convert s t x => evConv P s t (ρ x) fun r => K r none
  | .makeFunc (.func f) first caps => first.size = 0 ∧ K (.cl f (clCaps (caps.toList.map ρ))) none
  | .makeSlice t l c => evMake P Z id t (ρ l) (ρ c) K
  | .slice t x lo hi none => evSlice P t (ρ x) (lo.map ρ) (hi.map ρ) fun r => K r none
  | .fieldAddr t x k => evFieldAddr P t k (ρ x) ob fun r => K r none
  | .field t x k => evField P t k (ρ x) fun r => K r none
  | .indexAddr t x i => vInt (ρ i) fun _ n => evIdx P t (ρ x) ob n fun r => K r none
  | .index t x i => vInt (ρ i) fun _ n => (match ρ x with
    | .d _ _ (.str s) => stOf P t = true ∧ 0 ≤ n ∧ n < s.size ∧ K (.d true [] (.int .u8 (s.get! n.toNat).toNat)) none
    | _ => False)
  | .extract x k => evExtract k (ρ x) fun r => K r none
  | .nilCheck x => evNil (ρ x) ob fun r => K r none
  | .call c => (match c.callee with
    | .builtin .len => (match c.args.toList, c.argTypes.toList with
      | [x], [t] => evLen P t (ρ x) ob fun r => K (.d true [] r) none
      | _, _ => False)
    | .value f => evCall P J ob id (ρ f) (c.args.toList.map ρ) fun r => K r none
    | _ => False)
  | _ => False

section
variable {P : Program} {Z : Nat → Option D} {J : World → Prop} {w0 : Base} {w : World} {g : Gh} {ob : Nat → Option Ob} {id : Nat}

theorem goodL_capL (ob : Nat → Option Ob) : ∀ s : SV, s.goodL ob = true → (s.viewL ob).capL = true
  | .cnil, _ => rfl
  | .ccons x r, h => by
    simp [SV.goodL] at h
    simp [SV.viewL, D.capL, h.1.2, goodL_capL ob r h.2]
  | .d _ _ _, h => by simp [SV.goodL] at h
  | .ea _ _ _, h => by simp [SV.goodL] at h
  | .own _ _, h => by simp [SV.goodL] at h
  | .oa _ _ _, h => by simp [SV.goodL] at h
  | .bx _, h => by simp [SV.goodL] at h
  | .bf _ _, h => by simp [SV.goodL] at h
  | .cl _ _, h => by simp [SV.goodL] at h
  | .junk, h => by simp [SV.goodL] at h

mutual
theorem view_sound (hw : ∀ id o, ob id = some o → ObOK w g ob id o) : ∀ (s : SV) {v : Value}, SVok w g ob s v → s.good ob = true →
    ∃ bs, RepV w (s.view ob) v bs ∧ (s.imm = true → (∀ b ∈ bs, ¬ Mut g ob b) ∧ ∀ b ∈ bs, b ∈ s.rgs.flatMap g.B)
  | .d pr re x, v, h, hg => by
    obtain ⟨bs, h1, h2, h3⟩ := h
    refine ⟨bs, ?_, fun _ => ⟨h3, h2.1⟩⟩
    cases x <;> first | exact h1 | (simp [SV.good] at hg)
  | .ea pr re x, v, h, hg => by
    obtain ⟨ad, cs, bs, rfl, h1, h2, h3, h4, h5, h6, h7⟩ := h
    refine ⟨ad.block :: bs, (repV_one rfl).2 ⟨ad, cs, bs, rfl, rfl, h1, h3, h2⟩, fun _ => ⟨fun b hb => ?_, fun b hb => ?_⟩⟩
    · rcases List.mem_cons.1 hb with rfl | hb
      · exact h6
      · exact h5 b hb
    · rcases List.mem_cons.1 hb with rfl | hb
      · exact h7
      · exact h4.1 b hb
  | .own id ver, v, h, hg => by
    obtain ⟨o, ho, _, hv⟩ := h
    have hob := hw id o ho
    cases o with
    | arr ver' pr re x e sz =>
      simp [SV.good, ho] at hg; subst hg
      obtain ⟨n, f, rfl, hsz, hh⟩ := hob
      have hvv := hv rfl
      simp only [SV.view, ho, SV.imm, Bool.false_eq_true, false_imp_iff, and_true]
      rcases hh with ⟨e1, rfl⟩ | ⟨b, cap, cur, bf, e1, e2, e3, e4, e5, e6, e7, e8⟩
      · exact ⟨[], (repV_one rfl).2 ⟨none, 0, by rw [hvv, e1], Nat.le_refl _, .inl ⟨rfl, rfl⟩⟩⟩
      · by_cases hn : n = 0
        · subst hn; exact ⟨[], (repV_one rfl).2 ⟨_, cap, by rw [hvv, e1], e4.1, .inl ⟨rfl, rfl⟩⟩⟩
        · refine ⟨_, (repV_one rfl).2 ⟨_, cap, by rw [hvv, e1], e4.1, .inr ⟨by omega, ⟨b, 0, none⟩, sz, bf, rfl, hsz, rfl, fun i hi => ?_⟩⟩⟩
          obtain ⟨ci, a1, a2, a3⟩ := e7 i hi
          refine ⟨ci, a1, a2, fun j u hj => ?_⟩
          have : (⟨b, 0, none⟩ : Addr).add (i * sz + j) = ⟨b, i * sz + j, none⟩ := by unfold Addr.add; split <;> simp_all
          rw [this]
          simp only [World.cell?, e3]
          exact a3 j u hj
    | frz ver' pr re x =>
      simp [SV.good, ho] at hg
      obtain ⟨rfl, hL⟩ := hg
      obtain ⟨bs, hr, _⟩ := hob
      simp only [SV.view, ho, SV.imm, Bool.false_eq_true, false_imp_iff, and_true]
      refine ⟨bs, ?_⟩
      rw [hv rfl]
      cases x <;> simp [D.isL] at hL <;> exact hr
    | var => simp [SV.good, ho] at hg
    | dead => simp [SV.good, ho] at hg
  | .bx id, v, h, hg => by
    obtain ⟨o, ho, hv⟩ := h
    have hob := hw id o ho
    cases o with
    | var pr re x t =>
      obtain rfl := hv rfl
      obtain ⟨b, cs, bs, e1, e2, e3, h1, h2, h3, h4⟩ := hob
      simp only [SV.view, ho, SV.imm, Bool.false_eq_true, false_imp_iff, and_true]
      exact ⟨b :: bs, (repV_one rfl).2 ⟨⟨b, 0, none⟩, cs, bs, by rw [e1], rfl, h1, h2, cells_of_block e3⟩⟩
    | arr => simp [SV.good, ho] at hg
    | frz => simp [SV.good, ho] at hg
    | dead => simp [SV.good, ho] at hg
  | .cl f caps, v, h, hg => by
    obtain ⟨vs, rfl, hv⟩ := h
    obtain ⟨bs, hb⟩ := viewL_sound hw caps hv (by simpa [SV.good] using hg)
    simp only [SV.view, SV.imm, Bool.false_eq_true, false_imp_iff, and_true]
    exact ⟨bs, (repV_one rfl).2 ⟨vs, rfl, goodL_capL ob caps (by simpa [SV.good] using hg), hb⟩⟩
  | .oa _ _ _, v, h, hg => by simp [SV.good] at hg
  | .bf _ _, v, h, hg => by simp [SV.good] at hg
  | .cnil, v, h, hg => by simp [SV.good] at hg
  | .ccons _ _, v, h, hg => by simp [SV.good] at hg
  | .junk, v, h, hg => by simp [SV.good] at hg
theorem viewL_sound (hw : ∀ id o, ob id = some o → ObOK w g ob id o) : ∀ (s : SV) {vs : List Value}, SVl w g ob s vs → s.goodL ob = true → ∃ bs, RepB w (s.viewL ob) vs bs
  | .cnil, vs, h, hg => ⟨[], h, rfl⟩
  | .ccons x r, vs, h, hg => by
    obtain ⟨v, vs', rfl, h1, h2⟩ := h
    simp [SV.goodL] at hg
    obtain ⟨b1, hb1, _⟩ := view_sound hw x h1 hg.1.1
    obtain ⟨b2, hb2⟩ := viewL_sound hw r h2 hg.2
    exact ⟨b1 ++ b2, [v], vs', b1, b2, rfl, rfl, (repV_one hg.1.2).1 hb1, hb2⟩
  | .d _ _ _, vs, h, hg => h.elim
  | .ea _ _ _, vs, h, hg => h.elim
  | .own _ _, vs, h, hg => h.elim
  | .oa _ _ _, vs, h, hg => h.elim
  | .bx _, vs, h, hg => h.elim
  | .bf _ _, vs, h, hg => h.elim
  | .cl _ _, vs, h, hg => h.elim
  | .junk, vs, h, hg => h.elim
end

theorem args_sound (hw : ∀ id o, ob id = some o → ObOK w g ob id o) {caps : D} {cv : List Value} {cb : List Nat} (hc : RepT w caps cv cb) : ∀ (l : List SV) {vs : List Value}, l.length = vs.length →
    (∀ (i : Nat) s, l[i]? = some s → ∃ v, vs[i]? = some v ∧ SVok w g ob s v) → l.all (·.good ob) = true →
    ∃ bs, RepT w (dargs ob l caps) (vs ++ cv) bs ∧ ∀ b ∈ bs, b ∈ cb ∨ (l.all (·.imm) = true → ¬ Mut g ob b ∧ b ∈ (l.flatMap (·.rgs)).flatMap g.B)
  | [], vs, hl, _, _ => by
    have : vs = [] := List.length_eq_zero_iff.1 hl.symm
    subst this
    exact ⟨cb, hc, fun b hb => .inl hb⟩
  | s :: l, vs, hl, h, hg => by
    simp only [List.all_cons, Bool.and_eq_true] at hg
    cases vs with
    | nil => simp at hl
    | cons v vs =>
      obtain ⟨v', hv, hs⟩ := h 0 s rfl
      simp at hv; subst hv
      obtain ⟨b1, h1, h1'⟩ := view_sound hw s hs hg.1
      obtain ⟨b2, h2, h2'⟩ := args_sound hw hc l (vs := vs) (by simpa using hl) (fun i s hi => by simpa using h (i + 1) s (by simpa using hi)) hg.2
      refine ⟨b1 ++ b2, ⟨v, vs ++ cv, b1, b2, rfl, rfl, h1, h2⟩, fun b hb => ?_⟩
      simp only [List.all_cons, Bool.and_eq_true, List.flatMap_cons, List.flatMap_append]
      rcases List.mem_append.1 hb with hb | hb
      · exact .inr fun hi => ⟨(h1' hi.1).1 b hb, List.mem_append.2 (.inl ((h1' hi.1).2 b hb))⟩
      · rcases h2' b hb with h | h
        · exact .inl h
        · exact .inr fun hi => ⟨(h hi.2).1, List.mem_append.2 (.inr (h hi.2).2)⟩

theorem nodup_dedup (l : List Nat) : ∃ m : List Nat, m.Nodup ∧ ∀ b, b ∈ m ↔ b ∈ l := by
  induction l with
  | nil => exact ⟨[], List.nodup_nil, fun b => Iff.rfl⟩
  | cons a l ih =>
    obtain ⟨m, h1, h2⟩ := ih
    by_cases ha : a ∈ m
    · exact ⟨m, h1, fun b => by rw [h2, List.mem_cons]; exact ⟨.inr, fun h => h.elim (fun e => by rw [e]; exact (h2 a).1 ha) id⟩⟩
    · exact ⟨a :: m, List.nodup_cons.2 ⟨ha, h1⟩, fun b => by simp [h2]⟩

/-- What a call hands back becomes a datum of a region of its own. -/
theorem res_sound (hW : WRel J w0 ob g w) (hJ : Stab J) (hu : ob id = none) (h0 : g.B id = []) (h1 : 1 ≤ id) {fl : Fl} {y : D} {imm : Bool} {re : List Nat} {K : SV → Prop} (hk : resSV id imm re fl y K)
    {v : Value} {w' : World} {argB bs : List Nat} (hr : RepR w' y v bs) (hf : FlOK fl w.heap.size argB bs) (hb : Below w.heap.size w w') (harg : imm = true → ∀ b ∈ argB, ¬ Mut g ob b ∧ b ∈ re.flatMap g.B) :
    ∃ r, K r ∧ Left J w0 id g ob w r none v w' := by
  have mk : ∀ m : List Nat, (∀ b ∈ m, w.heap.size ≤ b ∧ b < w'.heap.size) → m.Nodup → Ext id g w (g.put id m (g.H id)) w' ∧ WRel J w0 (upd ob id none) (g.put id m (g.H id)) w' := by
    intro m hm hnd
    have hE : Ext id g w (g.put id m (g.H id)) w' := ⟨fun k hk => hb.block k hk, hb.size, fun i hi => by simp [Gh.put, hi], fun i hi => by simp [Gh.put, hi], fun b hb' => (hm b (by simpa [Gh.put] using hb')).1⟩
    exact ⟨hE, hW.ext hE hu h0 h1 (hW.below.trans (hb.mono hW.below.size)) (hJ _ _ hE.heap hE.size hW.jj) (by simpa [Gh.put] using hnd) (fun b hb' => (hm b (by simpa [Gh.put] using hb')).2) (by simp)⟩
  have nm : ∀ {m : List Nat} {b : Nat}, Ext id g w (g.put id m (g.H id)) w' → w.heap.size ≤ b → ¬ Mut (g.put id m (g.H id)) (upd ob id none) b := by
    rintro m b hE hge ⟨i, o, hi, hl, hbm⟩
    by_cases e : i = id
    · subst e; simp [upd] at hi
    · simp only [upd, e, if_false] at hi
      rw [hE.B i e] at hbm
      have := hW.mut_lt ⟨i, o, hi, hl, hbm⟩
      omega
  cases fl with
  | sep =>
    obtain ⟨hE, hW'⟩ := mk bs (fun b hb' => ⟨hf.1 b hb', hr.lt b hb'⟩) hf.2
    refine ⟨_, hk, _, hE, hW', bs, hr, ⟨fun b hb' => by simpa [Gh.put] using hb', fun _ => ⟨[], by simp [Gh.put]⟩⟩, fun b hb' => nm hE (hf.1 b hb')⟩
  | fresh =>
    obtain ⟨m, hm1, hm2⟩ := nodup_dedup bs
    obtain ⟨hE, hW'⟩ := mk m (fun b hb' => ⟨hf b ((hm2 b).1 hb'), hr.lt b ((hm2 b).1 hb')⟩) hm1
    refine ⟨_, hk, _, hE, hW', bs, hr, ⟨fun b hb' => by simpa [Gh.put] using (hm2 b).2 hb', fun h => by cases h⟩, fun b hb' => nm hE (hf b hb')⟩
  | any =>
    obtain ⟨him, hk⟩ := hk
    obtain ⟨m, hm1, hm2⟩ := nodup_dedup (bs.filter fun b => decide (w.heap.size ≤ b))
    obtain ⟨hE, hW'⟩ := mk m (fun b hb' => by
      have := (hm2 b).1 hb'
      simp only [List.mem_filter, decide_eq_true_eq] at this
      exact ⟨this.2, hr.lt b this.1⟩) hm1
    refine ⟨_, hk, _, hE, hW', bs, hr, ⟨fun b hb' => ?_, fun h => by cases h⟩, fun b hb' => ?_⟩
    · rcases Nat.lt_or_ge b w.heap.size with hlt | hge
      · rcases hf b hb' with h | h
        · exact List.mem_append.2 (.inr (flatMap_sub (fun i b hb => by
            obtain ⟨l, hl⟩ := hE.grow h0 i; exact hl.subset (List.mem_append.2 (.inl hb))) re b (harg him b h).2))
        · omega
      · have : b ∈ m := (hm2 b).2 (List.mem_filter.2 ⟨hb', by simpa using hge⟩)
        simp [Gh.put, this]
    · rcases Nat.lt_or_ge b w.heap.size with hlt | hge
      · rcases hf b hb' with h | h
        · exact fun hm => (harg him b h).1 (hE.mut hu hlt hm)
        · omega
      · exact nm hE hge
end
end Go.Proofs.Ytomhkcemkapmpaa
