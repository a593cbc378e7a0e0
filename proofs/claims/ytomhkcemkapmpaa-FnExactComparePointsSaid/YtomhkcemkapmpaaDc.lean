/- The symbolic step of one operation that changes no memory of the frame's own, and its soundness. For every world: no condition. -/
import Derived.Test.YtomhkcemkapmpaaDb
namespace Go.Proofs.Ytomhkcemkapmpaa
open Go Go.RowKit
set_option linter.unusedVariables false
set_option linter.unusedSimpArgs false

/-! ### Words on types, strings, fields -/
def aggOf (P : Program) (t : Nat) : Option Bool := (P.underlying t).map fun | .struct _ => true | .array _ _ => true | _ => false
def szOf (P : Program) (t : Nat) : Option Nat := (P.info? t).map (·.size)
def byOf (P : Program) (t : Nat) : Option Nat := (P.info? t).map (·.bytes)
def slOf (P : Program) (t : Nat) : Option Nat := match P.underlying t with | some (.slice e) => some e | _ => none
def inOf (P : Program) (t : Nat) : Option IntKind := match P.underlying t with | some (.int k) => some k | _ => none
def stOf (P : Program) (t : Nat) : Bool := match P.underlying t with | some .string => true | _ => false
/-- A struct's field k: its place in cells and its type. -/
def fdOf (P : Program) (t k : Nat) : Option (Nat × Nat) := match P.underlying t with | some (.struct fs) => fs[k]?.map fun f => (f.offset, f.type) | _ => none
def strLt (a b : ByteArray) : Bool := Op.bytesLess a.toList b.toList
def strEq (a b : ByteArray) : Bool := decide (a = b)

theorem toList_eq (a b : ByteArray) : (a.toList == b.toList) = strEq a b := by
  unfold strEq
  by_cases h : a = b
  · subst h; simp
  · have : a.toList ≠ b.toList := fun e => h (by
      have h1 : a.data.toList = b.data.toList := by rw [← ByteArray.toList_eq, ← ByteArray.toList_eq]; exact e
      cases a; cases b; simp at h1; simp [h1])
    simp [h, this]

namespace D
def offs : D → Nat → Nat
  | .acons _ _, 0 => 0
  | .acons x r, k + 1 => x.sz + r.offs k
  | _, _ => 0
/-- The field at a place in cells. -/
def at_ : D → Nat → D
  | .acons x r, o => if o = 0 then x else if o < x.sz then x.at_ o else r.at_ (o - x.sz)
  | _, _ => .anil
def cut (x : D) (lo hi : Nat) : D := .list (min hi x.llen - lo) (fun i => if i < min hi x.llen - lo then x.lget (lo + i) else x.lget (x.llen + i))
end D

def loadOK (P : Program) (t : Nat) (x : D) : Prop := aggOf P t = some x.isAgg ∧ (x.isAgg = true → szOf P t = some x.sz)

theorem run_isAgg' {P : Program} {t : Nat} {b : Bool} (h : aggOf P t = some b) (w : World) : (isAgg t).run P w = .ok b w := by
  unfold aggOf at h
  cases hu : P.underlying t with
  | none => rw [hu] at h; cases h
  | some d =>
    rw [hu] at h
    simp only [Option.map_some, Option.some.injEq] at h
    unfold isAgg
    simp only [Sem.run_bind, run_underlying hu]
    cases d <;> simp_all [Sem.run_pure]

theorem run_sizeOf' {P : Program} {t n : Nat} (h : szOf P t = some n) (w : World) : (sizeOf t).run P w = .ok n w := by
  unfold szOf at h
  cases hi : P.info? t with
  | none => rw [hi] at h; cases h
  | some i =>
    rw [hi] at h; simp at h
    unfold sizeOf typeInfo
    simp [Sem.run_bind, program, hi, h, Sem.run]

theorem run_loadVar' {P : Program} {t : Nat} {x : D} (h : loadOK P t x) {w : World} {ad : Addr} {cs : List Value} {bs : List Nat} (hr : RepB w x cs bs) (hc : CellsAt w ad 0 cs) :
    ∃ v, (loadVar t ad).run P w = .ok v w ∧ RepV w x v bs := by
  unfold loadVar
  by_cases hx : x.isAgg = true
  · refine ⟨.agg cs.toArray, ?_, (repV_agg hx).2 ⟨cs, rfl, hr⟩⟩
    have h1 := h.1; rw [hx] at h1
    have h2 := run_sizeOf' (h.2 hx)
    have hl : x.sz = cs.length := hr.len.symm
    rw [hl] at h2
    simp [run_isAgg' h1, h2, run_loadCells_list w ad cs (fun j v hj => by have := hc j v hj; rwa [Nat.zero_add] at this)]
  · have hx' : x.isAgg = false := by simpa using hx
    have h1 := h.1; rw [hx'] at h1
    have hlen : cs.length = 1 := by
      rw [hr.len]; cases x <;> simp_all [D.sz, D.isAgg, RepB]
    obtain ⟨v, rfl⟩ : ∃ v, cs = [v] := by
      match cs, hlen with
      | [v], _ => exact ⟨v, rfl⟩
    refine ⟨v, ?_, (repV_one hx').2 hr⟩
    have hcell := hc 0 v rfl
    simp only [Nat.zero_add] at hcell
    have ha : ad.add 0 = ad := by simp [Addr.add]
    rw [ha] at hcell
    simp [run_isAgg' h1, run_load, hcell]

/-! ### Fields -/
theorem RepB.fld {w : World} {x : D} {cs : List Value} {bs : List Nat} (h : RepB w x cs bs) (k : Nat) (hk : k < x.nfld) :
    ∃ c b b', RepB w (x.fld k) c b ∧ (b ++ b').Perm bs ∧ (∃ l r, cs = l ++ c ++ r ∧ l.length = x.offs k) := by
  induction x generalizing cs bs k with
  | acons x r ih1 ih2 =>
    obtain ⟨c1, c2, b1, b2, rfl, rfl, h1, h2⟩ := h
    cases k with
    | zero => exact ⟨c1, b1, b2, h1, List.Perm.refl _, [], c2, by simp, rfl⟩
    | succ k =>
      obtain ⟨c, b, b', a1, a2, l, r', rfl, a3⟩ := ih2 h2 k (by simp [D.nfld] at hk; omega)
      refine ⟨c, b, b1 ++ b', a1, ?_, c1 ++ l, r', by simp, by simp [D.offs, a3, h1.len]⟩
      rw [← List.append_assoc]
      exact (List.Perm.append_right b' List.perm_append_comm).trans (by rw [List.append_assoc]; exact List.Perm.append_left _ a2)
  | _ => simp [D.nfld] at hk

theorem RepT.fld {w : World} {x : D} {vs : List Value} {bs : List Nat} (h : RepT w x vs bs) (k : Nat) (hk : k < x.nfld) :
    ∃ v b b', vs[k]? = some v ∧ RepV w (x.fld k) v b ∧ (b ++ b').Perm bs := by
  induction x generalizing vs bs k with
  | acons x r ih1 ih2 =>
    obtain ⟨v, vs', b1, b2, rfl, rfl, h1, h2⟩ := h
    cases k with
    | zero => exact ⟨v, b1, b2, rfl, h1, List.Perm.refl _⟩
    | succ k =>
      obtain ⟨u, b, b', a1, a2, a3⟩ := ih2 h2 k (by simp [D.nfld] at hk; omega)
      refine ⟨u, b, b1 ++ b', by simpa using a1, a2, ?_⟩
      rw [← List.append_assoc]
      exact (List.Perm.append_right b' List.perm_append_comm).trans (by rw [List.append_assoc]; exact List.Perm.append_left _ a3)
  | _ => simp [D.nfld] at hk

/-- What stands at a place. -/
theorem RepB.at_ {w : World} {x : D} {cs : List Value} {bs : List Nat} (h : RepB w x cs bs) (o : Nat) (ho : 0 < (x.at_ o).sz) :
    ∃ c b b', RepB w (x.at_ o) c b ∧ (b ++ b').Perm bs ∧ (∃ l r, cs = l ++ c ++ r ∧ l.length = o) := by
  induction x generalizing cs bs o with
  | acons x r ih1 ih2 =>
    obtain ⟨c1, c2, b1, b2, rfl, rfl, h1, h2⟩ := h
    unfold D.at_ at ho ⊢
    by_cases h0 : o = 0
    · subst h0; simp only [if_true]; exact ⟨c1, b1, b2, h1, List.Perm.refl _, [], c2, by simp, rfl⟩
    · simp only [h0, if_false] at ho ⊢
      by_cases h3 : o < x.sz
      · simp only [h3, if_true] at ho ⊢
        obtain ⟨c, b, b', a1, a2, l, r', rfl, a3⟩ := ih1 h1 o ho
        refine ⟨c, b, b' ++ b2, a1, ?_, l, r' ++ c2, by simp, a3⟩
        rw [← List.append_assoc]; exact List.Perm.append_right _ a2
      · simp only [h3, if_false] at ho ⊢
        obtain ⟨c, b, b', a1, a2, l, r', rfl, a3⟩ := ih2 h2 (o - x.sz) ho
        refine ⟨c, b, b1 ++ b', a1, ?_, c1 ++ l, r', by simp, by simp [a3, h1.len]; omega⟩
        rw [← List.append_assoc]
        exact (List.Perm.append_right b' List.perm_append_comm).trans (by rw [List.append_assoc]; exact List.Perm.append_left _ a2)
  | _ => simp [D.at_, D.sz] at ho

theorem CellsAt.mid {w : World} {ad : Addr} {l c r : List Value} (h : CellsAt w ad 0 (l ++ c ++ r)) : CellsAt w (ad.add l.length) 0 c := by
  intro j v hj
  have hlt : j < c.length := (List.getElem?_eq_some_iff.1 hj).1
  have := h (l.length + j) v (by rw [List.append_assoc, List.getElem?_append_right (by omega), Nat.add_sub_cancel_left, List.getElem?_append_left hlt]; exact hj)
  rw [add_add]
  simpa using this

theorem run_part' {P : Program} {t : Nat} {x : D} (h : loadOK P t x) {w : World} {l c r : List Value} {bs : List Nat} (hr : RepB w x c bs) :
    ∃ v, (part t (l ++ c ++ r).toArray l.length).run P w = .ok v w ∧ RepV w x v bs := by
  unfold part
  by_cases hx : x.isAgg = true
  · refine ⟨.agg c.toArray, ?_, (repV_agg hx).2 ⟨c, rfl, hr⟩⟩
    have h1 := h.1; rw [hx] at h1
    have h2 := run_sizeOf' (h.2 hx)
    have hl : x.sz = c.length := hr.len.symm
    rw [hl] at h2
    simp [run_isAgg' h1, h2]
  · have hx' : x.isAgg = false := by simpa using hx
    have h1 := h.1; rw [hx'] at h1
    have hlen : c.length = 1 := by
      rw [hr.len]; cases x <;> simp_all [D.sz, D.isAgg, RepB]
    obtain ⟨v, rfl⟩ : ∃ v, c = [v] := by
      match c, hlen with
      | [v], _ => exact ⟨v, rfl⟩
    refine ⟨v, ?_, (repV_one hx').2 hr⟩
    simp [run_isAgg' h1]

/-! ### The steps -/
def onBool (b : Bool) (K : Bool → Prop) : Prop := (b = true → K true) ∧ (b = false → K false)
def vInt : SV → (IntKind → Int → Prop) → Prop
  | .d _ _ (.int k n), K => K k n
  | _, _ => False
def vBool : SV → (Bool → Prop) → Prop
  | .d _ _ (.bool b), K => K b
  | _, _ => False
def bitI (op : BinOp) (k : IntKind) (x y : Int) : Int :=
  match op with
  | .and => k.wrap ((BitVec.ofInt k.bits x &&& BitVec.ofInt k.bits y).toNat)
  | .or => k.wrap ((BitVec.ofInt k.bits x ||| BitVec.ofInt k.bits y).toNat)
  | .xor => k.wrap ((BitVec.ofInt k.bits x ^^^ BitVec.ofInt k.bits y).toNat)
  | _ => k.wrap ((BitVec.ofInt k.bits x &&& ~~~ BitVec.ofInt k.bits y).toNat)
def binI (op : BinOp) (k : IntKind) (a b : Int) (K : D → Prop) : Prop :=
  match op with
  | .add => K (.int k (k.wrap (a + b)))
  | .sub => K (.int k (k.wrap (a - b)))
  | .mul => K (.int k (k.wrap (a * b)))
  | .quo => b ≠ 0 ∧ K (.int k (k.wrap (a.tdiv b)))
  | .rem => b ≠ 0 ∧ K (.int k (a.tmod b))
  | .and => K (.int k (bitI .and k a b))
  | .or => K (.int k (bitI .or k a b))
  | .xor => K (.int k (bitI .xor k a b))
  | .andNot => K (.int k (bitI .andNot k a b))
  | .eql => K (.bool (decide (a = b)))
  | .neq => K (.bool (!decide (a = b)))
  | .lss => K (.bool (decide (a < b)))
  | .leq => K (.bool (decide (a ≤ b)))
  | .gtr => K (.bool (decide (b < a)))
  | .geq => K (.bool (decide (b ≤ a)))
  | _ => False
def binS (op : BinOp) (a b : ByteArray) (K : D → Prop) : Prop :=
  match op with
  | .add => a.size + b.size ≤ 9223372036854775807 ∧ K (.str (a ++ b))
  | .eql => K (.bool (strEq a b))
  | .neq => K (.bool (!strEq a b))
  | .lss => K (.bool (strLt a b))
  | .leq => K (.bool (strLt a b || strEq a b))
  | .gtr => K (.bool (!(strLt a b || strEq a b)))
  | .geq => K (.bool (!strLt a b))
  | _ => False
def binD (P : Program) (op : BinOp) (t : Nat) : D → D → (D → Prop) → Prop
  | .int k a, .int k' b, K => k = k' ∧ binI op k a b K
  | .str a, .str b, K => binS op a b K
  | .bool a, .bool b, K => P.underlying t = some .bool ∧ (match op with | .eql => K (.bool (a == b)) | .neq => K (.bool (a != b)) | _ => False)
  | _, _, _ => False
def evBin (P : Program) (op : BinOp) (t : Nat) : SV → SV → (D → Prop) → Prop
  | .d _ _ x, .d _ _ y, K => binD P op t x y K
  | _, _, _ => False
def evUn (op : UnOp) : SV → (D → Prop) → Prop
  | .d _ _ (.bool b), K => (match op with | .not => K (.bool (!b)) | _ => False)
  | .d _ _ (.int k n), K => (match op with | .neg => K (.int k (k.wrap (0 - n))) | _ => False)
  | _, _ => False
def evLen (P : Program) (t : Nat) : SV → (Nat → Option Ob) → (D → Prop) → Prop
  | .d _ _ (.str s), _, K => stOf P t = true ∧ K (.int .i64 s.size)
  | .d _ _ x, _, K => x.isL = true ∧ (slOf P t).isSome = true ∧ K (.int .i64 x.llen)
  | .own id ver, ob, K => (slOf P t).isSome = true ∧ (match ob id with
    | some (.arr v _ _ x _ _) => v = ver ∧ K (.int .i64 x.llen)
    | some (.frz v _ _ x) => v = ver ∧ x.isL = true ∧ K (.int .i64 x.llen)
    | _ => False)
  | _, _, _ => False
def elOK (P : Program) (t : Nat) (x : D) : Prop := ∃ e, slOf P t = some e ∧ szOf P e = some x.sz
def evIdx (P : Program) (t : Nat) : SV → (Nat → Option Ob) → Int → (SV → Prop) → Prop
  | .d pr re x, _, n, K => x.isL = true ∧ 0 ≤ n ∧ n < x.llen ∧ elOK P t (x.lget n.toNat) ∧ K (.ea pr re (x.lget n.toNat))
  | .own id ver, ob, n, K => (match ob id with
    | some (.arr v _ _ x e sz) => v = ver ∧ 0 ≤ n ∧ n < x.llen ∧ slOf P t = some e ∧ szOf P e = some sz ∧ K (.oa id ver n.toNat)
    | some (.frz v pr re x) => v = ver ∧ x.isL = true ∧ 0 ≤ n ∧ n < x.llen ∧ elOK P t (x.lget n.toNat) ∧ K (.ea pr (id :: re) (x.lget n.toNat))
    | _ => False)
  | _, _, _, _ => False
def evLoad (P : Program) (t : Nat) : SV → (Nat → Option Ob) → (SV → Prop) → Prop
  | .ea pr re x, _, K => loadOK P t x ∧ K (.d pr re x)
  | .bx id, ob, K => (match ob id with | some (.var pr re x _) => loadOK P t x ∧ K (.d pr re x) | _ => False)
  | .bf id o, ob, K => (match ob id with | some (.var pr re x _) => 0 < (x.at_ o).sz ∧ loadOK P t (x.at_ o) ∧ K (.d pr re (x.at_ o)) | _ => False)
  | .oa id ver i, ob, K => (match ob id with | some (.arr v pr re x _ _) => v = ver ∧ loadOK P t (x.lget i) ∧ K (.d pr re (x.lget i)) | _ => False)
  | .d pr re (.ref x), _, K => loadOK P t x ∧ K (.d pr re x)
  | _, _, _ => False
def fdOK (P : Program) (t k : Nat) (K : Nat → Prop) : Prop := ∃ o ty n, fdOf P t k = some (o, ty) ∧ szOf P ty = some (n + 1) ∧ K o
def evFieldAddr (P : Program) (t k : Nat) : SV → (Nat → Option Ob) → (SV → Prop) → Prop
  | .bx id, ob, K => (match ob id with | some (.var _ _ _ _) => fdOK P t k fun o => K (.bf id o) | _ => False)
  | .bf id o', ob, K => (match ob id with | some (.var _ _ _ _) => fdOK P t k fun o => K (.bf id (o' + o)) | _ => False)
  | .ea pr re x, _, K => fdOK P t k fun o => 0 < (x.at_ o).sz ∧ K (.ea pr re (x.at_ o))
  | .d pr re (.ref x), _, K => fdOK P t k fun o => 0 < (x.at_ o).sz ∧ K (.ea pr re (x.at_ o))
  | _, _, _ => False
def evField (P : Program) (t k : Nat) : SV → (SV → Prop) → Prop
  | .d pr re x, K => ∃ o ty, fdOf P t k = some (o, ty) ∧ x.isAgg = true ∧ k < x.nfld ∧ x.offs k = o ∧ loadOK P ty (x.fld k) ∧ K (.d pr re (x.fld k))
  | _, _ => False
def evExtract (k : Nat) : SV → (SV → Prop) → Prop
  | .d pr re (.tup x), K => k < x.nfld ∧ K (.d pr re (x.fld k))
  | _, _ => False
/-- A bound of a slice expression: none is the default. -/
def vBound : Option SV → Nat → (Int → Prop) → Prop
  | none, n, K => K n
  | some (.d _ _ (.int _ n)), _, K => K n
  | _, _, _ => False
def evSlice (P : Program) (t : Nat) : SV → Option SV → Option SV → (SV → Prop) → Prop
  | .d pr re (.str s), lo, hi, K => stOf P t = true ∧ vBound hi s.size fun h => vBound lo 0 fun l => 0 ≤ l ∧ l ≤ h ∧ h ≤ s.size ∧ K (.d pr re (.str (s.extract l.toNat h.toNat)))
  | .d pr re x, lo, hi, K => x.isL = true ∧ vBound hi x.llen fun h => vBound lo 0 fun l => 0 ≤ l ∧ l ≤ h ∧ h ≤ x.llen ∧
      (l < h → elOK P t (x.lget l.toNat)) ∧ (∃ e sz, slOf P t = some e ∧ szOf P e = some sz) ∧ K (.d pr re (x.cut l.toNat h.toNat))
  | _, _, _, _ => False
def evConv (P : Program) (s t : Nat) : SV → (SV → Prop) → Prop
  | .d _ _ (.int _ n), K => ∃ k, (P.underlying s).isSome = true ∧ inOf P t = some k ∧ K (.d true [] (.int k (k.wrap n)))
  | .d pr re (.str x), K => (P.underlying s).isSome = true ∧ stOf P t = true ∧ K (.d pr re (.str x))
  | _, _ => False

end Go.Proofs.Ytomhkcemkapmpaa
