/- Soundness of the steps on fields, cuts, conversions. For every world: no condition. -/
import Derived.Test.YtomhkcemkapmpaaDd
namespace Go.Proofs.Ytomhkcemkapmpaa
open Go Go.RowKit
set_option linter.unusedVariables false
set_option linter.unusedSimpArgs false
variable {P : Program} {w : World} {g : Gh} {ob : Nat → Option Ob}

theorem fdOf_spec {t k o ty : Nat} (h : fdOf P t k = some (o, ty)) : ∃ fs f, P.underlying t = some (.struct fs) ∧ fs[k]? = some f ∧ f.offset = o ∧ f.type = ty := by
  unfold fdOf at h
  split at h
  · rename_i fs hu
    cases hf : fs[k]? with
    | none => rw [hf] at h; cases h
    | some f => rw [hf] at h; simp at h; exact ⟨fs, f, hu, hf, h.1, h.2⟩
  · cases h

theorem add_zero' (a : Addr) : a.add 0 = a := by simp [Addr.add]

theorem sz_pos_of_fld {x : D} {o : Nat} (h : 0 < (x.at_ o).sz) : 0 < x.sz := by
  induction x generalizing o with
  | acons x r ih1 ih2 =>
    unfold D.at_ at h
    simp only [D.sz]
    split at h
    · omega
    · split at h
      · omega
      · have := ih2 h; omega
  | _ => simp [D.at_, D.sz] at h

theorem repR_of {x : D} {u : Value} {bs : List Nat} {ci : List Value} (hb : RepB w x ci bs) (h : RepV w x u bs) : RepR w x u bs := by
  cases x <;> first | exact h | exact hb.elim

theorem evField_sound {t k : Nat} {s : SV} {v : Value} {K : SV → Prop} (h : evField P t k s K) (hs : SVok w g ob s v) :
    ∃ r, K r ∧ ∃ u, (Instr.field t v k).run P w = .ok u w ∧ SVok w g ob r u := by
  unfold evField at h
  split at h
  case h_2 => exact h.elim
  rename_i pr re x
  obtain ⟨o, ty, hf, hx, hk, ho, hl, hK⟩ := h
  obtain ⟨fs, f, hu, hff, rfl, rfl⟩ := fdOf_spec hf
  obtain ⟨bs, hr, hc, hm⟩ := hs
  have hr' : RepV w x v bs := by cases x <;> simp [D.isAgg] at hx <;> exact hr
  obtain ⟨cs, rfl, hb⟩ := (repV_agg hx).1 hr'
  obtain ⟨c, b, b', a1, a2, l, r, rfl, a3⟩ := hb.fld k hk
  obtain ⟨u, h1, h2⟩ := run_part' (l := l) (r := r) hl a1 (P := P)
  refine ⟨_, hK, u, ?_, b, repR_of a1 h2, hc.sub a2, fun q hq => hm q (a2.subset (List.mem_append.2 (.inl hq)))⟩
  rw [a3, ho] at h1
  simp [Instr.field, run_underlying hu, hff, asAgg]
  simpa using h1

theorem evExtract_sound {k : Nat} {s : SV} {v : Value} {K : SV → Prop} (h : evExtract k s K) (hs : SVok w g ob s v) :
    ∃ r, K r ∧ ∃ u, (Instr.extract v k).run P w = .ok u w ∧ SVok w g ob r u := by
  unfold evExtract at h
  split at h
  case h_2 => exact h.elim
  obtain ⟨bs, ⟨vs, rfl, ht⟩, hc, hm⟩ := hs
  obtain ⟨u, b, b', a1, a2, a3⟩ := ht.fld k h.1
  refine ⟨_, h.2, u, by simp [Instr.extract, a1], b, repR_of a2.cells a2, hc.sub a3, fun q hq => hm q (a3.subset (List.mem_append.2 (.inl hq)))⟩

theorem evFieldAddr_sound {t k : Nat} {s : SV} {v : Value} {K : SV → Prop} (hw : ∀ id o, ob id = some o → ObOK w g ob id o)
    (h : evFieldAddr P t k s ob K) (hs : SVok w g ob s v) :
    ∃ r, K r ∧ ∃ u, (Instr.fieldAt t v k).run P w = .ok u w ∧ SVok w g ob r u := by
  have run : ∀ {K : Nat → Prop} (ad : Addr), fdOK P t k K → ∃ o, K o ∧ (Instr.fieldAt t (.pointer (some ad)) k).run P w = .ok (.pointer (some (ad.add o))) w := by
    intro K ad ⟨o, ty, n, hf, hz, hk⟩
    obtain ⟨fs, f, hu, hff, rfl, rfl⟩ := fdOf_spec hf
    exact ⟨_, hk, by simp [Instr.fieldAt, run_underlying hu, hff, Instr.sureAddr, fieldPlace, run_sizeOf' hz]⟩
  have elem : ∀ {pr : Bool} {re : List Nat} {x : D} {o : Nat} {ad : Addr} {cs : List Value} {bs : List Nat}, RepB w x cs bs → CellsAt w ad 0 cs → Cov g pr re bs → (∀ b ∈ bs, ¬ Mut g ob b) →
      ¬ Mut g ob ad.block → ad.block ∈ re.flatMap g.B → 0 < (x.at_ o).sz → SVok w g ob (.ea pr re (x.at_ o)) (.pointer (some (ad.add o))) := by
    intro pr re x o ad cs bs h1 h2 h4 h5 h6 h7 h0
    obtain ⟨c, b, b', a1, a2, l, r, rfl, a3⟩ := h1.at_ o h0
    refine ⟨ad.add o, c, b, rfl, a1, ?_, ?_, h4.sub a2, fun q hq => h5 q (a2.subset (List.mem_append.2 (.inl hq))), by rw [add_block]; exact h6, by rw [add_block]; exact h7⟩
    · rw [← a3]; exact h2.mid
    · rw [a1.len]; exact h0
  unfold evFieldAddr at h
  split at h
  · obtain ⟨q, hq, hv⟩ := hs
    split at h
    · rename_i id _ pr re x t' hq'
      rw [hq'] at hq; injection hq with hq; subst hq
      obtain rfl := hv rfl
      obtain ⟨b, cs, bs, e1, _⟩ := hw _ _ hq'
      obtain ⟨o, hk, hr⟩ := run ⟨b, 0, none⟩ h
      exact ⟨_, hk, _, by rw [e1]; exact hr, _, hq', fun _ _ _ _ _ => ⟨b, o, e1, rfl, rfl⟩⟩
    · exact h.elim
  · obtain ⟨q, hq, hv⟩ := hs
    split at h
    · rename_i id o' _ pr re x t' hq'
      rw [hq'] at hq; injection hq with hq; subst hq
      obtain ⟨b, f, e1, rfl, rfl⟩ := hv _ _ _ _ rfl
      obtain ⟨o, hk, hr⟩ := run ((⟨b, 0, none⟩ : Addr).add o') h
      refine ⟨_, hk, _, hr, _, hq', fun _ _ _ _ _ => ⟨b, _, e1, ?_, rfl⟩⟩
      rw [add_add]
    · exact h.elim
  · obtain ⟨ad, cs, bs, rfl, h1, h2, h3, h4, h5, h6, h7⟩ := hs
    obtain ⟨o, hk, hr⟩ := run ad h
    exact ⟨_, hk.2, _, hr, elem h1 h2 h4 h5 h6 h7 hk.1⟩
  · obtain ⟨bs, hr, hc, hm⟩ := hs
    rename_i pr re x
    have hr' := (repV_one (x := .ref x) rfl).1 hr
    obtain ⟨ad, c, b, e, rfl, h1, h2, h3⟩ := hr'
    injection e with e; subst e
    obtain ⟨o, hk, hrun⟩ := run ad h
    exact ⟨_, hk.2, _, hrun, elem h1 h3 (hc.sub (b2 := [ad.block]) (List.perm_append_comm.trans (List.Perm.refl _))) (fun q hq => hm q (List.mem_cons_of_mem _ hq)) (hm _ (List.mem_cons_self ..)) (hc.1 _ (List.mem_cons_self ..)) hk.1⟩
  · exact h.elim

theorem inOf_spec {t : Nat} {k : IntKind} (h : inOf P t = some k) : P.underlying t = some (.int k) := by
  unfold inOf at h; split at h <;> simp_all
theorem stOf_spec {t : Nat} (h : stOf P t = true) : P.underlying t = some .string := by
  unfold stOf at h; split at h <;> simp_all

theorem evConv_sound {s t : Nat} {x : SV} {v : Value} {K : SV → Prop} (h : evConv P s t x K) (hs : SVok w g ob x v) :
    ∃ r, K r ∧ ∃ u, (convert s t v).run P w = .ok u w ∧ SVok w g ob r u := by
  unfold evConv at h
  split at h
  · obtain ⟨k, hu, ht, hk⟩ := h
    have e := int_of hs; subst e
    obtain ⟨d, hd⟩ := Option.isSome_iff_exists.mp hu
    exact ⟨_, hk, _, by simp [convert, run_underlying hd, run_underlying (inOf_spec ht), Conv.intToInt], dok_int ..⟩
  · obtain ⟨hu, ht, hk⟩ := h
    have e := str_of hs; subst e
    obtain ⟨d, hd⟩ := Option.isSome_iff_exists.mp hu
    refine ⟨_, hk, .string _, ?_, dok_str ..⟩
    simp [convert, run_underlying hd, run_underlying (stOf_spec ht)]
  · exact h.elim

theorem vBound_sound {s : Option SV} {v : Option Value} {n : Nat} {K : Int → Prop} (h : vBound s n K) (hs : ∀ x, s = some x → ∃ u, v = some u ∧ SVok w g ob x u) (h0 : s = none → v = none) :
    ∃ m : Int, K m ∧ (v = none → m = n) ∧ (∀ u, v = some u → ∃ k, u = .int k m) := by
  unfold vBound at h
  split at h
  · exact ⟨_, h, fun _ => rfl, fun u hu => by rw [h0 rfl] at hu; cases hu⟩
  · obtain ⟨u, hu, hv⟩ := hs _ rfl
    have e := int_of hv; subst e
    refine ⟨_, h, fun (hn : v = none) => ?_, fun u' hu' => ⟨_, by rw [hu] at hu'; injection hu' with hu'; exact hu'.symm⟩⟩
    rw [hu] at hn; cases hn
  · exact h.elim


theorem run_sliceBounds' {b : Bool} {n cap : Nat} {lo hi : Option Value} {l h : Int} (hhi : (hi = none → h = n) ∧ ∀ u, hi = some u → ∃ k, u = .int k h) (hlo : (lo = none → l = 0) ∧ ∀ u, lo = some u → ∃ k, u = .int k l)
    (h0 : 0 ≤ l) (h1 : l ≤ h) (h2 : h ≤ n) (h3 : n ≤ cap) : (Instr.sliceBounds b n cap lo hi none).run P w = .ok (l.toNat, h.toNat, cap) w := by
  have e1 : (match hi with | some v => Instr.sliceBound v cap (if b then .sliceAcap else .sliceAlen) | none => pure n : Sem Nat).run P w = .ok h.toNat w := by
    cases hi with
    | none => have := hhi.1 rfl; subst this; simp
    | some u =>
      obtain ⟨k, rfl⟩ := hhi.2 u rfl
      simp only [Instr.sliceBound, asIntOf, pure_bind]
      rw [if_pos ⟨by omega, by omega⟩]; rfl
  have e2 : (match lo with | some v => Instr.sliceBound v h.toNat .sliceB | none => pure 0 : Sem Nat).run P w = .ok l.toNat w := by
    cases lo with
    | none => have := hlo.1 rfl; subst this; simp
    | some u =>
      obtain ⟨k, rfl⟩ := hlo.2 u rfl
      simp only [Instr.sliceBound, asIntOf, pure_bind]
      rw [if_pos ⟨by omega, by omega⟩]; rfl
  unfold Instr.sliceBounds
  cases hi <;> cases lo <;> simp only [pure_bind, Sem.run_bind] at e1 e2 ⊢ <;> simp_all

theorem flatMap_part {bf : Nat → List Nat} {l n' n : Nat} (h : l + n' ≤ n) : ∃ a c, (List.range n).flatMap bf = a ++ ((List.range n').flatMap (fun i => bf (l + i)) ++ c) := by
  have e : List.range n = List.range l ++ ((List.range n').map (l + ·) ++ List.range' (l + n') (n - l - n')) := by
    simp only [List.range_eq_range', List.map_add_range', Nat.add_zero]
    rw [List.range'_append_1, show n' + (n - l - n') = n - l by omega]
    have := List.range'_append_1 (s := 0) (m := l) (n := n - l)
    rw [Nat.zero_add] at this
    rw [this]; congr 1; omega
  exact ⟨(List.range l).flatMap bf, (List.range' (l + n') (n - l - n')).flatMap bf, by rw [e]; simp [List.flatMap_map]⟩

theorem RepB.cut {n c : Nat} {f : Nat → D} {A : Option Addr} {bs : List Nat} (h : RepB w (.list n f) [.slice A n c] bs) {l m sz : Nat} (h1 : l ≤ m) (h2 : m ≤ n) (hsz : l < m → (f l).sz = sz) :
    ∃ bs' r, RepB w (D.cut (.list n f) l m) [.slice (if c = l then A else A.map (·.add (l * sz))) (m - l) (c - l)] bs' ∧ (bs' ++ r).Perm bs := by
  obtain ⟨A', c', e, hn, h⟩ := h
  injection e with e _; injection e with e1 e2 e3; subst e1; subst e3
  have hlen : min m n - l = m - l := by omega
  unfold D.cut
  simp only [D.llen, hlen]
  by_cases hlt : l < m
  · rcases h with ⟨h0, _⟩ | ⟨h0, ad, sz', bf, rfl, hs0, rfl, hall⟩
    · omega
    · obtain ⟨c0, q1, q2, _⟩ := hall l (by omega)
      have hszz : sz = sz' := by rw [← hsz hlt, ← q1.len]; exact q2
      subst hszz
      obtain ⟨a, cc, hab⟩ := flatMap_part (bf := bf) (l := l) (n' := m - l) (n := n) (by omega)
      refine ⟨ad.block :: (List.range (m - l)).flatMap (fun i => bf (l + i)), a ++ cc, ⟨_, _, rfl, by omega, .inr ⟨by omega, ad.add (l * sz), sz, fun i => bf (l + i), ?_, hs0, by rw [add_block], fun i hi => ?_⟩⟩, ?_⟩
      · rw [if_neg (by omega)]; rfl
      · obtain ⟨ci, r1, r2, r3⟩ := hall (l + i) (by omega)
        refine ⟨ci, by simpa [hi, D.lget] using r1, r2, ?_⟩
        intro j v hj
        have := r3 j v hj
        rw [add_add, ← Nat.add_assoc]
        rw [Nat.add_mul] at this
        exact this
      · rw [hab]
        simp only [List.cons_append]
        refine List.Perm.cons _ ?_
        rw [← List.append_assoc, ← List.append_assoc]
        exact List.Perm.append_right cc List.perm_append_comm
  · have : m = l := by omega
    subst this
    exact ⟨[], bs, ⟨_, _, rfl, by omega, .inl ⟨by omega, rfl⟩⟩, List.Perm.refl _⟩

theorem cut_eq {x : D} {n : Nat} {f : Nat → D} (h : x.llen = n) (hf : ∀ i, x.lget i = f i) (lo hi : Nat) : x.cut lo hi = D.cut (.list n f) lo hi := by
  show _ = D.list (min hi n - lo) (fun i => if i < min hi n - lo then f (lo + i) else f (n + i))
  unfold D.cut
  rw [h]
  simp only [hf]

theorem evSlice_sound {t : Nat} {s : SV} {v : Value} {slo shi : Option SV} {lo hi : Option Value} {K : SV → Prop} (h : evSlice P t s slo shi K) (hs : SVok w g ob s v)
    (hlo : ∀ x, slo = some x → ∃ u, lo = some u ∧ SVok w g ob x u) (hlo0 : slo = none → lo = none) (hhi : ∀ x, shi = some x → ∃ u, hi = some u ∧ SVok w g ob x u) (hhi0 : shi = none → hi = none) :
    ∃ r, K r ∧ ∃ u, (Instr.sliceAt t v lo hi none).run P w = .ok u w ∧ SVok w g ob r u := by
  unfold evSlice at h
  split at h
  · obtain ⟨ht, h⟩ := h
    have e := str_of hs; subst e
    obtain ⟨m, h, hm⟩ := vBound_sound h hhi hhi0
    obtain ⟨l, h, hl⟩ := vBound_sound h hlo hlo0
    obtain ⟨h0, h1, h2, hk⟩ := h
    refine ⟨_, hk, _, ?_, dok_str ..⟩
    simp only [Instr.sliceAt, Sem.run_bind, run_underlying (stOf_spec ht), Result.andThen_ok, Instr.slice]
    simp [run_sliceBounds' hm hl h0 h1 h2 (Nat.le_refl _)]
  · obtain ⟨hL, h⟩ := h
    obtain ⟨n, f, A, c, bs, hn', hf, rfl, hn, hr, hc, hmt⟩ := list_of hL hs
    have hcut : ∀ lo hi, D.cut _ lo hi = D.cut (.list n f) lo hi := fun lo hi => cut_eq hn' hf lo hi
    rw [hn'] at h
    simp only [hf, hcut] at h
    obtain ⟨m, h, hm⟩ := vBound_sound h hhi hhi0
    obtain ⟨l, h, hl⟩ := vBound_sound h hlo hlo0
    obtain ⟨h0, h1, h2, hel, ⟨e, sz, he, hsz⟩, hk⟩ := h
    obtain ⟨bs', r, hr', hp⟩ := hr.cut (l := l.toNat) (m := m.toNat) (sz := sz) (by omega) (by omega) (fun hlt => by
      obtain ⟨e', he', hs'⟩ := hel (by omega)
      rw [he] at he'; injection he' with he'; subst he'
      rw [hsz] at hs'; injection hs' with hs'; exact hs'.symm)
    refine ⟨_, hk, _, ?_, bs', (repV_one (by rfl)).2 hr', hc.sub hp, fun q hq => hmt q (hp.subset (List.mem_append.2 (.inl hq)))⟩
    simp only [Instr.sliceAt, Sem.run_bind, run_underlying (slOf_spec he), Result.andThen_ok, Instr.slice]
    simp [run_sliceBounds' hm hl h0 h1 h2 hn, run_sizeOf' hsz]
  · exact h.elim
end Go.Proofs.Ytomhkcemkapmpaa
