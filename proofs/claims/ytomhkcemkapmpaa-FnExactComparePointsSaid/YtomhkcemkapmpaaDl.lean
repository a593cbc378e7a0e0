/- The step that appends. For every world: no condition. -/
import Derived.Test.YtomhkcemkapmpaaDk
import Derived.Maps.AppendAt
namespace Go.Proofs.Ytomhkcemkapmpaa
open Go Go.RowKit
set_option linter.unusedVariables false
set_option linter.unusedSimpArgs false
variable {P : Program} {Z : Nat → Option D} {J : World → Prop} {w0 : Base} {w w' : World} {ob : Nat → Option Ob} {g g' : Gh} {id : Nat}

/-- A list's elements as one row of cells. -/
def Row (w : World) (sz : Nat) (n : Nat) (f : Nat → D) (bf : Nat → List Nat) (xs : List Value) : Prop :=
  xs.length = n * sz ∧ ∀ i, i < n → ∃ ci, RepB w (f i) ci (bf i) ∧ ci.length = sz ∧ ∀ j v, ci[j]? = some v → xs[i * sz + j]? = some v

theorem Row.one {sz n : Nat} {f : Nat → D} {bf : Nat → List Nat} {xs : List Value} (h : Row w sz n f bf xs) (hs : 0 < sz) : ∀ u ∈ xs, u.oneCell' = true := by
  intro u hu
  obtain ⟨k, hk⟩ := List.mem_iff_getElem?.1 hu
  have hlt : k < n * sz := by rw [← h.1]; exact (List.getElem?_eq_some_iff.1 hk).1
  have hi : k / sz < n := Nat.div_lt_of_lt_mul (by rw [Nat.mul_comm]; exact hlt)
  obtain ⟨ci, a1, a2, a3⟩ := h.2 (k / sz) hi
  have hm : k % sz < ci.length := by rw [a2]; exact Nat.mod_lt _ hs
  have := a3 (k % sz) ci[k % sz] (List.getElem?_eq_getElem hm)
  rw [Nat.mul_comm, Nat.div_add_mod, hk] at this
  injection this with this
  rw [this]
  exact a1.one _ (List.getElem_mem hm)

theorem Row.make {sz : Nat} {f : Nat → D} {bf : Nat → List Nat} : ∀ (n : Nat) (cf : Nat → List Value), (∀ i, i < n → RepB w (f i) (cf i) (bf i) ∧ (cf i).length = sz) → Row w sz n f bf ((List.range n).flatMap cf)
  | 0, cf, _ => ⟨by simp, fun i hi => by omega⟩
  | n + 1, cf, h => by
    have ih := Row.make n cf (fun i hi => h i (by omega))
    rw [List.range_succ, List.flatMap_append]
    simp only [List.flatMap_cons, List.flatMap_nil, List.append_nil]
    refine ⟨by rw [List.length_append, ih.1, (h n (by omega)).2, Nat.add_mul]; omega, fun i hi => ?_⟩
    rcases Nat.lt_or_ge i n with hlt | hge
    · obtain ⟨ci, a1, a2, a3⟩ := ih.2 i hlt
      exact ⟨ci, a1, a2, fun j v hj => by
        have := a3 j v hj
        rw [List.getElem?_append_left (List.getElem?_eq_some_iff.1 this).1]; exact this⟩
    · have : i = n := by omega
      subst this
      exact ⟨cf i, (h i (by omega)).1, (h i (by omega)).2, fun j v hj => by
        rw [List.getElem?_append_right (by rw [ih.1]; omega), ih.1, Nat.add_sub_cancel_left]; exact hj⟩

/-- The elements of a list that lies in memory, as a row, with their blocks. -/
theorem row_of_list {n c sz : Nat} {f : Nat → D} {A : Option Addr} {bs : List Nat} (h : RepB w (.list n f) [.slice A n c] bs) (hn : 0 < n) (hsz : (f 0).sz = sz) :
    ∃ ad bf xs, A = some ad ∧ Row w sz n f bf xs ∧ (∀ j u, xs[j]? = some u → w.cell? (ad.add j) = some u) ∧ bs = ad.block :: (List.range n).flatMap bf ∧ 0 < sz := by
  obtain ⟨A', c', e, _, h⟩ := h
  injection e with e _; injection e with e1 e2 e3; subst e1
  rcases h with ⟨h0, _⟩ | ⟨h0, ad, sz', bf, rfl, hs, rfl, hall⟩
  · omega
  · obtain ⟨c0, q1, q2, _⟩ := hall 0 hn
    have : sz = sz' := by rw [← hsz, ← q1.len]; exact q2
    subst this
    have : ∃ cf : Nat → List Value, ∀ i, i < n → RepB w (f i) (cf i) (bf i) ∧ (cf i).length = sz ∧ CellsAt w ad (i * sz) (cf i) := by
      refine ⟨fun i => if hi : i < n then Classical.choose (hall i hi) else [], fun i hi => ?_⟩
      simp only [hi, dif_pos]
      exact Classical.choose_spec (hall i hi)
    obtain ⟨cf, hcf⟩ := this
    have hrow := Row.make n cf (fun i hi => ⟨(hcf i hi).1, (hcf i hi).2.1⟩)
    refine ⟨ad, bf, _, rfl, hrow, fun j u hj => ?_, rfl, hs⟩
    have hlt : j < n * sz := by rw [← hrow.1]; exact (List.getElem?_eq_some_iff.1 hj).1
    have hi : j / sz < n := Nat.div_lt_of_lt_mul (by rw [Nat.mul_comm]; exact hlt)
    have hcell := (hcf (j / sz) hi).2.2
    have hm : j % sz < (cf (j / sz)).length := by rw [(hcf (j / sz) hi).2.1]; exact Nat.mod_lt _ hs
    have h1 := hcell (j % sz) _ (List.getElem?_eq_getElem hm)
    have hdm : j / sz * sz + j % sz = j := by rw [Nat.mul_comm]; exact Nat.div_add_mod j sz
    rw [hdm] at h1
    rw [h1]
    -- the row's cell is that one
    have key : ∀ m, m ≤ n → ∀ i, i < m → ∀ k, k < sz → ((List.range m).flatMap cf)[i * sz + k]? = (cf i)[k]? := by
      intro m
      induction m with
      | zero => intro _ i hi; omega
      | succ m ih =>
        intro hm i hi k hk
        have hl : ((List.range m).flatMap cf).length = m * sz := (Row.make m cf (fun i hi => ⟨(hcf i (by omega)).1, (hcf i (by omega)).2.1⟩)).1
        rw [List.range_succ, List.flatMap_append]
        simp only [List.flatMap_cons, List.flatMap_nil, List.append_nil]
        rcases Nat.lt_or_ge i m with hlt | hge
        · have : (i + 1) * sz ≤ m * sz := Nat.mul_le_mul_right sz hlt
          rw [Nat.add_mul] at this
          rw [List.getElem?_append_left (by omega)]
          exact ih (by omega) i hlt k hk
        · have : i = m := by omega
          subst this
          rw [List.getElem?_append_right (by omega), hl, Nat.add_sub_cancel_left]
    have := key n (Nat.le_refl _) (j / sz) hi (j % sz) (Nat.mod_lt _ hs)
    rw [hdm, hj] at this
    rw [List.getElem?_eq_getElem hm] at this
    exact this.symm

theorem Row.app {sz n m : Nat} {f f2 : Nat → D} {bf bf2 : Nat → List Nat} {xs ys : List Value} (h : Row w sz n f bf xs) (h2 : Row w sz m f2 bf2 ys) :
    Row w sz (n + m) (fun i => if i < n then f i else f2 (i - n)) (fun i => if i < n then bf i else bf2 (i - n)) (xs ++ ys) := by
  refine ⟨by rw [List.length_append, h.1, h2.1, Nat.add_mul], fun i hi => ?_⟩
  by_cases hlt : i < n
  · simp only [hlt, if_true]
    obtain ⟨ci, a1, a2, a3⟩ := h.2 i hlt
    exact ⟨ci, a1, a2, fun j v hj => by
      have := a3 j v hj
      rw [List.getElem?_append_left (List.getElem?_eq_some_iff.1 this).1]; exact this⟩
  · simp only [hlt, if_false]
    obtain ⟨ci, a1, a2, a3⟩ := h2.2 (i - n) (by omega)
    refine ⟨ci, a1, a2, fun j v hj => ?_⟩
    have h3 := a3 j v hj
    have hmul : i * sz = n * sz + (i - n) * sz := by rw [← Nat.add_mul]; congr 1; omega
    rw [List.getElem?_append_right (by rw [h.1]; omega), h.1, hmul]
    have : n * sz + (i - n) * sz + j - n * sz = (i - n) * sz + j := by omega
    rw [this]; exact h3

theorem flatMap_app {n m : Nat} {bf bf2 : Nat → List Nat} : (List.range (n + m)).flatMap (fun i => if i < n then bf i else bf2 (i - n)) = (List.range n).flatMap bf ++ (List.range m).flatMap bf2 := by
  have e : List.range (n + m) = List.range n ++ (List.range m).map (n + ·) := by
    simp only [List.range_eq_range', List.map_add_range', Nat.add_zero]
    have := List.range'_append_1 (s := 0) (m := n) (n := m)
    rw [Nat.zero_add] at this
    exact this.symm
  rw [e, List.flatMap_append, List.flatMap_map]
  congr 1
  · rw [List.flatMap_def, List.flatMap_def]
    congr 1
    refine List.map_congr_left fun j hj => ?_
    rw [if_pos (List.mem_range.1 hj)]
  · rw [List.flatMap_def, List.flatMap_def]
    congr 1
    refine List.map_congr_left fun j hj => ?_
    rw [if_neg (by omega), Nat.add_sub_cancel_left]

theorem Row.agr {sz n : Nat} {f : Nat → D} {bf : Nat → List Nat} {xs : List Value} (h : Row w sz n f bf xs) (ha : ∀ i, i < n → ∀ b ∈ bf i, w'.heap[b]? = w.heap[b]?) : Row w' sz n f bf xs :=
  ⟨h.1, fun i hi => let ⟨ci, a1, a2, a3⟩ := h.2 i hi; ⟨ci, a1.agr (ha i hi), a2, a3⟩⟩

/-- An owned row. -/
structure OwnR (w : World) (g : Gh) (ob : Nat → Option Ob) (id base : Nat) (pr : Bool) (re : List Nat) (n : Nat) (f : Nat → D) (e sz : Nat) (v : Value) (bf : Nat → List Nat) (xs : List Value) : Prop where
  own : w.ownsRow base e sz v n xs
  row : Row w sz n f bf xs
  cov : Cov g pr re ((List.range n).flatMap bf)
  nomut : ∀ i, i < n → ∀ c ∈ bf i, ¬ Mut g ob c
  blk : ∀ b, v.ownBlock = some b → b ∈ g.B id

theorem own_of_obOK (hW : WRel J w0 ob g w) {ver : Nat} {pr : Bool} {re : List Nat} {x : D} {e sz : Nat} (ho : ob id = some (.arr ver pr re x e sz)) :
    ∃ n f bf xs, x = .list n f ∧ 0 < sz ∧ OwnR w g ob id w0.heap.size pr re n f e sz (g.H id) bf xs := by
  have hid : 1 ≤ id := by
    rcases Nat.eq_zero_or_pos id with z | z
    · subst z; rw [hW.ob0] at ho; cases ho
    · exact z
  obtain ⟨n, f, rfl, hs, hh⟩ := hW.obs _ _ ho
  refine ⟨n, f, ?_⟩
  rcases hh with ⟨e1, rfl⟩ | ⟨b, cap, cur, bf, e1, e2, e3, e4, e5, e6, e7, e8⟩
  · exact ⟨fun _ => [], [], rfl, hs, ⟨by rw [e1]; exact World.ownsRow_nil _ _ _ _, ⟨by simp, fun i hi => by omega⟩, Cov.nil _ _ _, fun i hi => by omega, fun b hb => by rw [e1] at hb; cases hb⟩⟩
  · have hle : n * sz ≤ cur.toList.length := by rw [Array.length_toList, e5]; exact Nat.mul_le_mul_right sz e4.1
    refine ⟨bf, cur.toList.take (n * sz), rfl, hs, ⟨⟨by rw [List.length_take]; omega, .inr ⟨b, cap, cur, e1, (hW.new id hid b e2).1, e3, e4.1, e4.2, e5, rfl⟩⟩, ⟨by rw [List.length_take]; omega, fun i hi => ?_⟩, e6, e8, fun b' hb' => ?_⟩⟩
    · obtain ⟨ci, a1, a2, a3⟩ := e7 i hi
      refine ⟨ci, a1, a2, fun j v hj => ?_⟩
      have := a3 j v hj
      have hjl : j < sz := by rw [← a2]; exact (List.getElem?_eq_some_iff.1 hj).1
      have h1 : (i + 1) * sz ≤ n * sz := Nat.mul_le_mul_right sz hi
      rw [Nat.add_mul] at h1
      rw [List.getElem?_take, if_pos (by omega)]
      simpa using this
    · rw [e1] at hb'; injection hb' with hb'; subst hb'; exact e2

theorem obOK_of_own {ver base : Nat} {pr : Bool} {re : List Nat} {n : Nat} {f : Nat → D} {e sz : Nat} {bf : Nat → List Nat} {xs : List Value} (hs : 0 < sz) (h : OwnR w g ob id base pr re n f e sz (g.H id) bf xs) :
    ObOK w g ob id (.arr ver pr re (.list n f) e sz) := by
  refine ⟨n, f, rfl, hs, ?_⟩
  rcases h.own.2 with ⟨e1, rfl⟩ | ⟨b, cap, cur, e1, _, e3, e4, e4', e5, e6⟩
  · exact .inl ⟨e1, rfl⟩
  · refine .inr ⟨b, cap, cur, bf, e1, h.blk b (by rw [e1]; rfl), e3, ⟨e4, e4'⟩, e5, h.cov, fun i hi => ?_, h.nomut⟩
    obtain ⟨ci, a1, a2, a3⟩ := h.row.2 i hi
    refine ⟨ci, a1, a2, fun j v hj => ?_⟩
    have h1 := a3 j v hj
    rw [← e6, List.getElem?_take] at h1
    split at h1
    · simpa using h1
    · cases h1

theorem run_append_zero {t e ty sz : Nat} (he : slOf P t = some e) (hs : szOf P e = some sz) {base : Nat} {v : Value} {n : Nat} {xs : List Value} (hv : w.ownsRow base e sz v n xs) (A : Option Addr) (c : Nat) :
    (Builtin.append_ #[t, t] ty #[v, .slice A 0 c]).run P w = .ok v w := by
  have hfc : ∀ w, (Builtin.firstCells sz 0 (.slice A 0 c)).run P w = .ok #[] w := by
    intro w; cases A <;> simp [Builtin.firstCells, loadCells, loadCellsFrom]
  rcases hv.2 with ⟨rfl, rfl⟩ | ⟨b, cap, cur, rfl, _, e3, e4, _⟩
  · simp [Builtin.append_, run_underlying (slOf_spec he), run_sizeOf' hs, Builtin.lenOf, hfc]
  · simp [Builtin.append_, run_underlying (slOf_spec he), run_sizeOf' hs, Builtin.lenOf, hfc, e4, storeCells]

/-- A list to be read: its datum, its elements' regions. -/
def lstOf (ob : Nat → Option Ob) : SV → (Bool → List Nat → D → Prop) → Prop
  | .d pr re x, K => x.isL = true ∧ K pr re x
  | .own id ver, K => (match ob id with
    | some (.arr v pr re x _ _) => v = ver ∧ K pr re x
    | some (.frz v pr re x) => v = ver ∧ x.isL = true ∧ K pr (id :: re) x
    | _ => False)
  | _, _ => False

theorem lstOf_sound (hW : WRel J w0 ob g w) {s : SV} {v : Value} {K : Bool → List Nat → D → Prop} (h : lstOf ob s K) (hs : SVok w g ob s v) :
    ∃ pr re x, K pr re x ∧ ∃ n f A c, x.llen = n ∧ (∀ i, x.lget i = f i) ∧ v = .slice A n c ∧
      ∀ sz, 0 < n → (f 0).sz = sz → ∃ ad bf xs, A = some ad ∧ 0 < sz ∧ Row w sz n f bf xs ∧ (∀ j u, xs[j]? = some u → w.cell? (ad.add j) = some u) ∧ Cov g pr re ((List.range n).flatMap bf) ∧ ∀ i, i < n → ∀ c ∈ bf i, ¬ Mut g ob c := by
  have data : ∀ {pr : Bool} {re : List Nat} {x : D}, x.isL = true → DOK w g ob pr re x v → ∃ n f A c, x.llen = n ∧ (∀ i, x.lget i = f i) ∧ v = .slice A n c ∧
      ∀ sz, 0 < n → (f 0).sz = sz → ∃ ad bf xs, A = some ad ∧ 0 < sz ∧ Row w sz n f bf xs ∧ (∀ j u, xs[j]? = some u → w.cell? (ad.add j) = some u) ∧ Cov g pr re ((List.range n).flatMap bf) ∧ ∀ i, i < n → ∀ c ∈ bf i, ¬ Mut g ob c := by
    intro pr re x hL hd
    obtain ⟨n, f, A, c, bs, hn, hf, rfl, hnc, hr, hc, hm⟩ := list_of hL hd
    refine ⟨n, f, A, c, hn, hf, rfl, fun sz h0 hsz => ?_⟩
    obtain ⟨ad, bf, xs, rfl, hrow, hcell, rfl, hs0⟩ := row_of_list hr h0 hsz
    exact ⟨ad, bf, xs, rfl, hs0, hrow, hcell, hc.sub (b2 := [ad.block]) (List.perm_append_comm.trans (List.Perm.refl _)), fun i hi c hcc => hm c (List.mem_cons_of_mem _ (List.mem_flatMap.2 ⟨i, List.mem_range.2 hi, hcc⟩))⟩
  unfold lstOf at h
  split at h
  · exact ⟨_, _, _, h.2, data h.1 hs⟩
  · obtain ⟨o, ho, _, hv⟩ := hs
    split at h
    · rename_i v' pr re x e sz ho'
      rw [ho'] at ho; injection ho with ho; subst ho
      obtain ⟨rfl, hk⟩ := h
      obtain ⟨n, f, bf, xs, rfl, hs0, hO⟩ := own_of_obOK hW ho'
      have hvv := hv rfl
      rcases hO.own.2 with ⟨e1, rfl⟩ | ⟨b, cap, cur, e1, _, e3, e4, _⟩
      · exact ⟨_, _, _, hk, 0, f, none, 0, rfl, fun _ => rfl, hvv.trans e1, fun sz h0 => by omega⟩
      · refine ⟨_, _, _, hk, n, f, some ⟨b, 0, none⟩, cap, rfl, fun _ => rfl, hvv.trans e1, fun sz' h0 hsz => ?_⟩
        obtain ⟨c0, a1, a2, _⟩ := hO.row.2 0 h0
        have : sz' = sz := by rw [← hsz, ← a1.len]; exact a2
        subst this
        have hown := hO.own
        rw [e1] at hown
        exact ⟨_, bf, xs, rfl, hs0, hO.row, hown.cells (g := b) rfl, hO.cov, hO.nomut⟩
    · rename_i v' pr re x ho'
      rw [ho'] at ho; injection ho with ho; subst ho
      obtain ⟨rfl, hL, hk⟩ := h
      have hvv := hv rfl
      have hob : DOK w g ob pr (_ :: re) x (g.H _) := hW.obs _ _ ho'
      rw [← hvv] at hob
      exact ⟨_, _, _, hk, data hL hob⟩
    · exact h.elim
  · exact h.elim

/-- What an append gives: at base nil a new object, at an owned base its next make. -/
def appOK (P : Program) (Z : Nat → Option D) (t n m : Nat) (K : Nat → Nat → Prop) : Prop :=
  ∃ e z by_, slOf P t = some e ∧ Z e = some z ∧ 0 < z.sz ∧ byOf P e = some by_ ∧ by_ ≤ 1048576 ∧ n + m ≤ 134217728 ∧ K e z.sz

theorem app_run (hZ : ZOK P Z) (hW : WRel J w0 ob g w) {t ty n m e sz by_ : Nat} {z : D} (he : slOf P t = some e) (hz : Z e = some z) (hsz : z.sz = sz) (hs0 : 0 < sz) (hby : byOf P e = some by_) (hb1 : by_ ≤ 1048576) (hb2 : n + m ≤ 134217728)
    {v : Value} {xs : List Value} (hown : w.ownsRow w0.heap.size e sz v n xs) {A : Option Addr} {c : Nat} {ys : List Value}
    (hx : 0 < m → ∃ ad, A = some ad ∧ ys.length = m * sz ∧ (∀ j u, ys[j]? = some u → w.cell? (ad.add j) = some u) ∧ ∀ u ∈ ys, u.oneCell' = true) (hx0 : m = 0 → ys = []) :
    ∃ v' w', (Builtin.append_ #[t, t] ty #[v, .slice A m c]).run P w = .ok v' w' ∧ w'.ownsRow w0.heap.size e sz v' (n + m) (xs ++ ys) ∧ w.grownBy w' v.ownBlock ∧ (v'.ownBlock = v.ownBlock ∨ ∃ b, v'.ownBlock = some b ∧ w.heap.size ≤ b ∧ b < w'.heap.size) := by
  obtain ⟨hsize, zv, hzv, hzr⟩ := hZ e z hz
  by_cases hm : m = 0
  · subst hm
    refine ⟨v, w, run_append_zero he (by rw [← hsz]; exact hsize) hown A c, by rw [hx0 rfl]; simpa using hown, ⟨rfl, rfl, rfl, Nat.le_refl _, fun _ _ _ => rfl⟩, .inl rfl⟩
  · obtain ⟨ad, rfl, h1, h2, h3⟩ := hx (by omega)
    obtain ⟨i, hi, hib⟩ := byOf_run hby
    have hisz : i.size = sz := by
      unfold szOf at hsize; rw [hi] at hsize; simp at hsize; rw [hsize, hsz]
    have hzero : i.zero = some zv := by rw [hi] at hzv; simpa using hzv
    have hzc : zv.cells.size = sz := by
      have := (hzr w).cells.len
      simp at this; rw [this, hsz]
    obtain ⟨v', w', r1, r2, r3, _, r4⟩ := run_append_own_at (P := P) w w0.heap.size t ty e i zv sz by_ (slOf_spec he) hi hzero hisz hib hzc hs0 v n xs hown ad m c ys h1 h2 h3 (by unfold maxLen; omega) (by
      have : (n + m) * by_ ≤ 134217728 * 1048576 := Nat.mul_le_mul hb2 hb1
      omega) hW.below.size
    exact ⟨v', w', r1, r2, r3, r4.imp (fun h => h) (fun h => ⟨w.heap.size, h, Nat.le_refl _, (r2.lt _ h).2⟩)⟩

/-- The appended object's relation. -/
theorem app_own {n m e sz : Nat} {f f2 : Nat → D} {bf bf2 : Nat → List Nat} {xs ys : List Value} {pr pr2 : Bool} {re re2 : List Nat} {v' : Value} {base : Nat} {ob' : Nat → Option Ob}
    (hrow : Row w sz n f bf xs) (hcov : Cov g' pr re ((List.range n).flatMap bf)) (hmut : ∀ i, i < n → ∀ c ∈ bf i, ¬ Mut g' ob' c) (hrow2 : Row w sz m f2 bf2 ys) (hcov2 : ∀ b0, Cov g' pr re b0 → Cov g' pr2 re2 (b0 ++ (List.range m).flatMap bf2)) (hmut2 : ∀ i, i < m → ∀ c ∈ bf2 i, ¬ Mut g' ob' c)
    (hg1 : ∀ i, i < n → ∀ b ∈ bf i, w'.heap[b]? = w.heap[b]?) (hg2 : ∀ i, i < m → ∀ b ∈ bf2 i, w'.heap[b]? = w.heap[b]?) (hown : w'.ownsRow base e sz v' (n + m) (xs ++ ys)) (hblk : ∀ b, v'.ownBlock = some b → b ∈ g'.B id) :
    OwnR w' g' ob' id base pr2 re2 (n + m) (fun i => if i < n then f i else f2 (i - n)) e sz v' (fun i => if i < n then bf i else bf2 (i - n)) (xs ++ ys) where
  own := hown
  row := (hrow.agr hg1).app (hrow2.agr hg2)
  cov := by rw [flatMap_app]; exact hcov2 _ hcov
  nomut := fun i hi c hc => by
    by_cases h : i < n
    · simp only [h, if_true] at hc; exact hmut i h c hc
    · simp only [h, if_false] at hc; exact hmut2 (i - n) (by omega) c hc
  blk := hblk
end Go.Proofs.Ytomhkcemkapmpaa
