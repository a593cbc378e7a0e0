/- The steps that store and append. For every world: no condition. -/
import Derived.Test.YtomhkcemkapmpaaDj
namespace Go.Proofs.Ytomhkcemkapmpaa
open Go Go.RowKit
set_option linter.unusedVariables false
set_option linter.unusedSimpArgs false

namespace D
def setAt : D → Nat → D → D
  | .acons x r, o, y => if o = 0 then .acons y r else if o < x.sz then .acons (x.setAt o y) r else .acons x (r.setAt (o - x.sz) y)
  | x, _, _ => x
def setL (x : D) (i : Nat) (y : D) : D := .list x.llen (fun j => if j = i then y else x.lget j)
def app (x y : D) : D := .list (x.llen + y.llen) (fun i => if i < x.llen then x.lget i else y.lget (i - x.llen))
end D

theorem RepB.one {w : World} {x : D} {cs : List Value} {bs : List Nat} (h : RepB w x cs bs) : ∀ u ∈ cs, u.oneCell' = true := by
  induction x generalizing cs bs with
  | acons x r ih1 ih2 =>
    obtain ⟨c1, c2, b1, b2, rfl, _, h1, h2⟩ := h
    intro u hu
    rcases List.mem_append.1 hu with hu | hu
    · exact ih1 h1 u hu
    · exact ih2 h2 u hu
  | anil => obtain ⟨rfl, _⟩ := h; simp
  | list n f => obtain ⟨A, c, rfl, _⟩ := h; simp [Value.oneCell']
  | ref x => obtain ⟨ad, c, b, rfl, _⟩ := h; simp [Value.oneCell']
  | fn g caps => obtain ⟨vs, rfl, _⟩ := h; simp [Value.oneCell']
  | tup x => exact h.elim
  | err b => obtain ⟨_, h⟩ := h; cases b <;> simp at h <;> first | (obtain ⟨t, v, rfl⟩ := h; simp [Value.oneCell']) | (subst h; simp [Value.oneCell'])
  | _ => obtain ⟨rfl, _⟩ := h; simp [Value.oneCell']

theorem RepB.setAt {w : World} {z x : D} {cs cx : List Value} {bs bx : List Nat} (h : RepB w z cs bs) (hx : RepB w x cx bx) (o : Nat) (hsz : (z.at_ o).sz = x.sz) (h0 : 0 < x.sz) :
    ∃ l c r bs' rest, cs = l ++ c ++ r ∧ l.length = o ∧ c.length = cx.length ∧ RepB w (z.setAt o x) (l ++ cx ++ r) bs' ∧ (bs' ++ rest).Perm (bs ++ bx) := by
  induction z generalizing cs bs o with
  | acons y r0 ih1 ih2 =>
    obtain ⟨c1, c2, b1, b2, rfl, rfl, h1, h2⟩ := h
    unfold D.at_ at hsz
    unfold D.setAt
    by_cases ho : o = 0
    · subst ho
      simp only [if_true] at hsz ⊢
      refine ⟨[], c1, c2, bx ++ b2, b1, by simp, rfl, by rw [h1.len, hx.len]; exact hsz, ⟨cx, c2, bx, b2, by simp, rfl, hx, h2⟩, ?_⟩
      have : (bx ++ b2 ++ b1).Perm (b1 ++ (bx ++ b2)) := List.perm_append_comm
      refine this.trans ?_
      rw [List.append_assoc]
      exact List.Perm.append_left _ List.perm_append_comm
    · simp only [ho, if_false] at hsz ⊢
      by_cases hlt : o < y.sz
      · simp only [hlt, if_true] at hsz ⊢
        obtain ⟨l, c, r, bs', rest, rfl, a1, a2, a3, a4⟩ := ih1 h1 o hsz
        refine ⟨l, c, r ++ c2, bs' ++ b2, rest, by simp, a1, a2, ⟨l ++ cx ++ r, c2, bs', b2, by simp, rfl, a3, h2⟩, ?_⟩
        have e1 : (bs' ++ b2 ++ rest).Perm (bs' ++ rest ++ b2) := by
          rw [List.append_assoc, List.append_assoc]; exact List.Perm.append_left _ List.perm_append_comm
        have e2 : (bs' ++ rest ++ b2).Perm (b1 ++ bx ++ b2) := List.Perm.append_right _ a4
        have e3 : (b1 ++ bx ++ b2).Perm (b1 ++ b2 ++ bx) := by
          rw [List.append_assoc, List.append_assoc]; exact List.Perm.append_left _ List.perm_append_comm
        exact e1.trans (e2.trans e3)
      · simp only [hlt, if_false] at hsz ⊢
        obtain ⟨l, c, r, bs', rest, rfl, a1, a2, a3, a4⟩ := ih2 h2 (o - y.sz) hsz
        refine ⟨c1 ++ l, c, r, b1 ++ bs', rest, by simp, by simp [a1, h1.len]; omega, a2, ⟨c1, l ++ cx ++ r, b1, bs', by simp, rfl, h1, a3⟩, ?_⟩
        rw [List.append_assoc, List.append_assoc]
        exact List.Perm.append_left _ a4
  | _ => simp [D.at_, D.sz] at hsz; omega

section
variable {P : Program} {J : World → Prop} {w0 : Base} {w w' : World} {ob : Nat → Option Ob} {g g' : Gh} {id : Nat}

theorem mod_set (b : Nat) (cs : Array Value) (hb : b ∈ g.B id) : Mod id g w g (w.setRow b cs) where
  heap := fun k _ hk => setRow_other w b k cs (fun e => hk (e ▸ hb))
  size := by simp
  B := fun _ _ => rfl
  H := fun _ _ => rfl
  grow := ⟨[], by simp, List.nodup_nil, by simp⟩

theorem storeVar_run {t b off : Nat} {ty : Nat} {cur : Array Value} {v : Value} {cs : List Value} (hsz : szOf P t = some cs.length) (hv : v.cells.toList = cs) (hg : w.heap[b]? = some (.cells cur ty (0, 0))) (hfit : off + cs.length ≤ cur.size)
    (h1 : ∀ u ∈ cs, u.oneCell' = true) : (Instr.storeAt t (.pointer (some ((⟨b, 0, none⟩ : Addr).add off))) v).run P w = .ok () (w.setRow b (cur.toList.take off ++ cs ++ cur.toList.drop (off + cs.length)).toArray) := by
  have hst := run_storeCells_at P b off ty cs 0 cur w hg (by simpa using hfit) h1
  simp only [Nat.add_zero] at hst
  have hadd : (⟨b, 0, none⟩ : Addr).add off = ⟨b, off, none⟩ := by unfold Addr.add; split <;> simp_all
  have hsize : v.cells.size = cs.length := by rw [← hv]; simp
  simp only [Instr.storeAt, Instr.sureAddr, pure_bind, storeVar, Sem.run_bind, run_sizeOf' hsz, Result.andThen_ok, hsize]
  simp only [ne_eq, not_true_eq_false, if_false, hv, hadd]
  simp [hst]

theorem flatMap_set (bf : Nat → List Nat) (k n : Nat) (bx : List Nat) (hk : k < n) : ∃ rest, ((List.range n).flatMap (fun j => if j = k then bx else bf j) ++ rest).Perm ((List.range n).flatMap bf ++ bx) := by
  have e : List.range n = List.range k ++ (k :: List.range' (k + 1) (n - k - 1)) := by
    rw [List.range_eq_range', List.range_eq_range', ← List.range'_succ, show n - k - 1 + 1 = n - k by omega]
    have := List.range'_append_1 (s := 0) (m := k) (n := n - k)
    rw [Nat.zero_add] at this
    rw [this]; congr 1; omega
  have e1 : (List.range k).flatMap (fun j => if j = k then bx else bf j) = (List.range k).flatMap bf := by
    rw [List.flatMap_def, List.flatMap_def]
    congr 1
    refine List.map_congr_left fun j hj => ?_
    rw [if_neg (by have := List.mem_range.1 hj; omega)]
  have e2 : (List.range' (k + 1) (n - k - 1)).flatMap (fun j => if j = k then bx else bf j) = (List.range' (k + 1) (n - k - 1)).flatMap bf := by
    rw [List.flatMap_def, List.flatMap_def]
    congr 1
    refine List.map_congr_left fun j hj => ?_
    rw [if_neg (by have := List.mem_range'_1.1 hj; omega)]
  refine ⟨bf k, ?_⟩
  rw [e]
  simp only [List.flatMap_append, List.flatMap_cons, e1, e2, if_true]
  generalize (List.range k).flatMap bf = A
  generalize (List.range' (k + 1) (n - k - 1)).flatMap bf = C
  simp only [List.append_assoc]
  refine List.Perm.append_left _ ?_
  have : (bx ++ (C ++ bf k)).Perm ((C ++ bf k) ++ bx) := List.perm_append_comm
  refine this.trans ?_
  rw [← List.append_assoc (bf k)]
  exact List.Perm.append_right _ List.perm_append_comm

/-- What a store makes of the object behind the pointer. -/
def stOb (x : SV) (P : Program) (t : Nat) (o : Ob) (p : SV) (K : Ob → Prop) : Prop :=
  match p, o with
  | .bx _, .var _ _ y t' => asD x fun p r z => szOf P t = some z.sz ∧ z.sz = y.sz ∧ addR z p r true [] fun pr' re' => K (.var pr' re' z t')
  | .bf _ off, .var pr re y t' => asD x fun p r z => szOf P t = some z.sz ∧ (y.at_ off).sz = z.sz ∧ 0 < z.sz ∧ addR z p r pr re fun pr' re' => K (.var pr' re' (y.setAt off z) t')
  | .oa _ ver i, .arr v pr re y e sz => asD x fun p r z => v = ver ∧ szOf P t = some z.sz ∧ z.sz = sz ∧ addR z p r pr re fun pr' re' => K (.arr v pr' re' (y.setL i z) e sz)
  | _, _ => False

theorem stOb_sound (hW : WRel J w0 ob g w) (hJ : Stab J) (hj0 : J w0.toWorld) {x p : SV} {vx vp : Value} {t : Nat} {o : Ob} {K : Ob → Prop} (hid : (match p with | .bx i => i | .bf i _ => i | .oa i _ _ => i | _ => 0) = id)
    (ho : ob id = some o) (h : stOb x P t o p K) (hx : SVok w g ob x vx) (hp : SVok w g ob p vp) :
    ∃ o', K o' ∧ Goes (g.H id = g.H id) o o' ∧ ∃ w', (Instr.storeAt t vp vx).run P w = .ok () w' ∧ WRel J w0 (upd ob id (some o')) g w' ∧ Mod id g w g w' := by
  have fin : ∀ {b : Nat} {cs : Array Value} {o' : Ob}, b ∈ g.B id → o.live = true → ObOK (w.setRow b cs) g (upd ob id (some o')) id o' → WRel J w0 (upd ob id (some o')) g (w.setRow b cs) ∧ Mod id g w g (w.setRow b cs) :=
    fun hb hl hn => ⟨hW.mod hJ (mod_set _ _ hb) ho hl rfl rfl rfl hj0 hn, mod_set _ _ hb⟩
  unfold stOb at h
  split at h
  · rename_i i pr re y t'
    simp only at hid; subst hid
    obtain ⟨pq, r, z, ⟨hsz, hzy, hadd⟩, bx, hr, hc, hm⟩ := asD_sound h hx
    obtain ⟨b, cs, bs, e1, e2, e3, e4, e5, e6, e7⟩ := hW.obs _ _ ho
    obtain ⟨q, hq, hv⟩ := hp
    rw [ho] at hq; injection hq with hq; subst hq
    obtain rfl := hv rfl
    obtain ⟨pr', re', hk, hc'⟩ := addR_sound hadd hr.cells hc (Cov.nil g true [])
    have hlen := hr.cells.len
    have hrun := storeVar_run (P := P) (w := w) (off := 0) (cs := vx.cells.toList) (by rw [hlen]; exact hsz) rfl e3 (by rw [hlen, hzy, ← e4.len, Nat.zero_add, List.size_toArray]; exact Nat.le_refl _) hr.cells.one
    have hcs : (cs.toArray.toList.take 0 ++ vx.cells.toList ++ cs.toArray.toList.drop (0 + vx.cells.toList.length)) = vx.cells.toList := by
      simp only [List.take_zero, List.nil_append, Nat.zero_add]
      rw [List.drop_eq_nil_of_le (by rw [hlen, hzy, ← e4.len]; exact Nat.le_refl _)]; simp
    rw [hcs] at hrun
    obtain ⟨hW', hM⟩ := fin (cs := vx.cells.toList.toArray) (o' := .var pr' re' z t') e2 rfl ⟨b, vx.cells.toList, bx, e1, e2, setRow_heap w b _ _ _ _ e3, hr.cells.agr (fun c hc => setRow_other w b c _ (fun e => hm c hc ⟨i, _, ho, rfl, e ▸ e2⟩)),
      by rw [hlen, hzy, ← e4.len]; exact e5, by simpa using hc', fun c hc hmm => hm c hc ((mod_set (w := w) b vx.cells.toList.toArray e2).mut ho rfl (hr.cells.lt c hc) hmm)⟩
    exact ⟨_, hk, rfl, _, by rw [e1, ← add_zero' (⟨b, 0, none⟩ : Addr)]; exact hrun, hW', hM⟩
  · rename_i i off pr re y t'
    simp only at hid; subst hid
    obtain ⟨pq, r, z, ⟨hsz, hzy, hz0, hadd⟩, bx, hr, hc, hm⟩ := asD_sound h hx
    obtain ⟨b, cs, bs, e1, e2, e3, e4, e5, e6, e7⟩ := hW.obs _ _ ho
    obtain ⟨q, hq, hv⟩ := hp
    rw [ho] at hq; injection hq with hq; subst hq
    obtain ⟨b', f, q1, rfl, rfl⟩ := hv _ _ _ _ rfl
    rw [e1] at q1; injection q1 with q1; injection q1 with q1; injection q1 with q1; subst q1
    obtain ⟨pr', re', hk, hc'⟩ := addR_sound hadd hr.cells hc e6
    obtain ⟨l, c, r', bs', rest, rfl, a1, a2, a3, a4⟩ := e4.setAt hr.cells off hzy hz0
    have hlen := hr.cells.len
    have hrun := storeVar_run (P := P) (w := w) (off := off) (cs := vx.cells.toList) (by rw [hlen]; exact hsz) rfl e3 (by simp [← a1, ← a2]) hr.cells.one
    have hcs : ((l ++ c ++ r').toArray.toList.take off ++ vx.cells.toList ++ (l ++ c ++ r').toArray.toList.drop (off + vx.cells.toList.length)) = l ++ vx.cells.toList ++ r' := by
      simp only []
      rw [← a1, ← a2]
      simp [List.append_assoc]
    rw [hcs] at hrun
    have hmm' : ∀ q ∈ bs', ¬ Mut g ob q := fun q hq => by
      rcases List.mem_append.1 (a4.subset (List.mem_append.2 (.inl hq))) with h | h
      · exact e7 q h
      · exact hm q h
    obtain ⟨hW', hM⟩ := fin (cs := (l ++ vx.cells.toList ++ r').toArray) (o' := .var pr' re' (y.setAt off z) t') e2 rfl ⟨b, l ++ vx.cells.toList ++ r', bs', e1, e2, setRow_heap w b _ _ _ _ e3,
      a3.agr (fun c hc => setRow_other w b c _ (fun e => hmm' c hc ⟨i, _, ho, rfl, e ▸ e2⟩)), by simp only [List.length_append] at e5 ⊢; omega, hc'.sub a4,
      fun c hc hmm => hmm' c hc ((mod_set (w := w) b (l ++ vx.cells.toList ++ r').toArray e2).mut ho rfl (a3.lt c hc) hmm)⟩
    exact ⟨_, hk, rfl, _, hrun, hW', hM⟩
  · rename_i i ver k v pr re y e sz
    simp only at hid; subst hid
    obtain ⟨pq, r, z, ⟨rfl, hsz, hzy, hadd⟩, bx, hr, hc, hm⟩ := asD_sound h hx
    obtain ⟨n, f, rfl, hs0, hh⟩ := hW.obs _ _ ho
    obtain ⟨q, hq, _, hv⟩ := hp
    rw [ho] at hq; injection hq with hq; subst hq
    obtain ⟨b', n', cap', q1, q2, rfl⟩ := hv _ _ _ _ _ rfl
    rcases hh with ⟨e1, _⟩ | ⟨b, cap, cur, bf, e1, e2, e3, e4, e5, e6, e7, e8⟩
    · rw [e1] at q1; cases q1
    · rw [e1] at q1; injection q1 with q1 q3 q4; injection q1 with q1; injection q1 with q1; subst q1; subst q3
      have hlen := hr.cells.len
      have hkn : k * sz + sz ≤ cur.size := by
        rw [e5]
        have : (k + 1) * sz ≤ cap * sz := Nat.mul_le_mul_right sz (by omega)
        rw [Nat.add_mul] at this; omega
      have hrun := storeVar_run (P := P) (w := w) (off := k * sz) (cs := vx.cells.toList) (by rw [hlen]; exact hsz) rfl e3 (by rw [hlen, hzy]; exact hkn) hr.cells.one
      have hl2 : vx.cells.toList.length = sz := by rw [hlen, hzy]
      have hl3 : vx.cells.size = sz := by rw [← hl2]; simp
      obtain ⟨pr', re', hk', hc'⟩ := addR_sound hadd hr.cells hc e6
      obtain ⟨rest, hp⟩ := flatMap_set bf k n bx q2
      let cur' := (cur.toList.take (k * sz) ++ vx.cells.toList ++ cur.toList.drop (k * sz + vx.cells.toList.length)).toArray
      have hcur' : cur'.size = cap * sz := by
        simp only [cur', List.size_toArray, List.length_append, List.length_take, List.length_drop, Array.length_toList, hl2]
        omega
      have hob : ObOK (w.setRow b cur') g (upd ob i (some (.arr v pr' re' (D.setL (.list n f) k z) e sz))) i (.arr v pr' re' (D.setL (.list n f) k z) e sz) := by
       refine ⟨n, fun j => if j = k then z else f j, rfl, hs0, .inr ⟨b, cap, cur', fun j => if j = k then bx else bf j, e1, e2, setRow_heap w b _ _ _ _ e3, e4, hcur', hc'.sub hp, fun j hj => ?_, fun j hj c hcj hmm => ?_⟩⟩
       · by_cases hjk : j = k
         · subst hjk
           simp only [if_true]
           refine ⟨vx.cells.toList, hr.cells.agr (fun c hc => setRow_other w b c _ (fun e => hm c hc ⟨i, _, ho, rfl, e ▸ e2⟩)), hl2, fun m u hu => ?_⟩
           have hmlt : m < vx.cells.toList.length := (List.getElem?_eq_some_iff.1 hu).1
           simp only [cur', List.getElem?_toArray]
           rw [List.append_assoc, List.getElem?_append_right (by simp; omega)]
           have : j * sz + m - (List.take (j * sz) cur.toList).length = m := by simp; omega
           rw [this, List.getElem?_append_left hmlt]
           exact hu
         · simp only [hjk, if_false]
           obtain ⟨ci, a1, a2, a3⟩ := e7 j hj
           refine ⟨ci, a1.agr (fun c hc => setRow_other w b c _ (fun e => e8 j hj c hc ⟨i, _, ho, rfl, e ▸ e2⟩)), a2, fun m u hu => ?_⟩
           have h3 := a3 m u hu
           have hmlt : m < ci.length := (List.getElem?_eq_some_iff.1 hu).1
           have hlt : j * sz + m < cur.size := (Array.getElem?_eq_some_iff.1 h3).1
           simp only [cur', List.getElem?_toArray]
           rcases Nat.lt_or_ge j k with hlk | hgk
           · have : (j + 1) * sz ≤ k * sz := Nat.mul_le_mul_right sz hlk
             rw [Nat.add_mul] at this
             rw [List.append_assoc, List.getElem?_append_left (by simp; omega), List.getElem?_take, if_pos (by omega)]
             simpa using h3
           · have : (k + 1) * sz ≤ j * sz := Nat.mul_le_mul_right sz (by omega)
             rw [Nat.add_mul] at this
             rw [List.getElem?_append_right (by simp [hl3]; omega), List.getElem?_drop]
             have : k * sz + vx.cells.toList.length + (j * sz + m - (List.take (k * sz) cur.toList ++ vx.cells.toList).length) = j * sz + m := by simp [hl3]; omega
             rw [this]
             simpa using h3
       · by_cases hjk : j = k
         · subst hjk
           simp only [if_true] at hcj
           exact hm c hcj ((mod_set (w := w) b cur' e2).mut ho rfl (hr.cells.lt c hcj) hmm)
         · simp only [hjk, if_false] at hcj
           obtain ⟨ci, a1, _⟩ := e7 j hj
           exact e8 j hj c hcj ((mod_set (w := w) b cur' e2).mut ho rfl (a1.lt c hcj) hmm)
      obtain ⟨hW', hM⟩ := fin e2 rfl hob
      exact ⟨_, hk', ⟨rfl, rfl, .inr ⟨rfl, rfl⟩⟩, _, hrun, hW', hM⟩
  · exact h.elim
end
end Go.Proofs.Ytomhkcemkapmpaa
