/- Data that a Go value stands for, and when cells of a world stand for it. For every world: no condition. -/
import Derived.WalkKit
import Derived.Orders
import Derived.Below
import Derived.Deep.LoopGhost
namespace Go.Proofs.Ytomhkcemkapmpaa
open Go Go.RowKit
set_option linter.unusedVariables false
set_option linter.unusedSimpArgs false

inductive D where
  | int (k : IntKind) (n : Int)
  | bool (b : Bool)
  | str (s : ByteArray)
  | list (n : Nat) (f : Nat → D)
  | anil
  | acons (x r : D)
  | ref (x : D)
  | fn (g : Nat) (caps : D)
  | err (b : Bool)
  | nils
  | tup (x : D)

namespace D
def sz : D → Nat
  | .anil => 0
  | .acons x r => x.sz + r.sz
  | .tup _ => 0
  | _ => 1
def isAgg : D → Bool
  | .anil => true
  | .acons _ _ => true
  | _ => false
def isL : D → Bool
  | .list _ _ => true
  | .nils => true
  | _ => false
def llen : D → Nat
  | .list n _ => n
  | _ => 0
def lget : D → Nat → D
  | .list _ f, i => f i
  | _, _ => .anil
/-- Field k of a struct (component k of several results). -/
def fld : D → Nat → D
  | .acons x _, 0 => x
  | .acons _ r, k + 1 => r.fld k
  | _, _ => .anil
def setFld : D → Nat → D → D
  | .acons _ r, 0, y => .acons y r
  | .acons x r, k + 1, y => .acons x (r.setFld k y)
  | x, _, _ => x
def nfld : D → Nat
  | .acons _ r => r.nfld + 1
  | _ => 0
/-- A list of values of one cell each. -/
def capL : D → Bool
  | .anil => true
  | .acons x r => !x.isAgg && r.capL
  | _ => false
/-- No heap block in it. -/
def flat : D → Bool
  | .int _ _ => true
  | .bool _ => true
  | .str _ => true
  | .err _ => true
  | .nils => true
  | .anil => true
  | .acons x r => x.flat && r.flat
  | .tup x => x.flat
  | _ => false

/-- The same datum as far as it can be seen. -/
def sim : D → D → Prop
  | .int k n, .int k' n' => k = k' ∧ n = n'
  | .bool b, .bool b' => b = b'
  | .str s, .str s' => s = s'
  | .list n f, .list m g => n = m ∧ ∀ i, i < n → sim (f i) (g i)
  | .anil, .anil => True
  | .acons x r, .acons y s => sim x y ∧ sim r s
  | .ref x, .ref y => sim x y
  | .fn g c, .fn h d => g = h ∧ sim c d
  | .err b, .err b' => b = b'
  | .nils, .nils => True
  | .nils, .list n _ => n = 0
  | .tup x, .tup y => sim x y
  | _, _ => False
theorem sim_refl : ∀ x : D, sim x x := by
  intro x
  induction x with
  | list n f ih => exact ⟨rfl, fun i _ => ih i⟩
  | acons x r ih1 ih2 => exact ⟨ih1, ih2⟩
  | ref x ih => exact ih
  | fn g c ih => exact ⟨rfl, ih⟩
  | tup x ih => exact ih
  | int => exact ⟨rfl, rfl⟩
  | anil => trivial
  | nils => trivial
  | _ => rfl
theorem sim_of_eq {x y : D} (h : x = y) : sim x y := h ▸ sim_refl x
theorem sim_sz {x y : D} (h : sim x y) : x.sz = y.sz := by
  induction x generalizing y with
  | acons x r ih1 ih2 =>
    cases y <;> simp only [sim] at h
    simp [sz, ih1 h.1, ih2 h.2]
  | _ => cases y <;> simp_all [sim, sz]
theorem sim_isAgg {x y : D} (h : sim x y) : x.isAgg = y.isAgg := by
  cases x <;> cases y <;> simp_all [sim, isAgg]
theorem sim_capL {x y : D} (h : sim x y) : x.capL = y.capL := by
  induction x generalizing y with
  | acons x r ih1 ih2 =>
    cases y <;> simp only [sim] at h
    simp only [capL, ih2 h.2, sim_isAgg h.1]
  | _ => cases y <;> simp_all [sim, capL]
end D

def CellsAt (w : World) (ad : Addr) (o : Nat) (cs : List Value) : Prop := ∀ j v, cs[j]? = some v → w.cell? (ad.add (o + j)) = some v

def RepB (w : World) : D → List Value → List Nat → Prop
  | .int k n, cs, bs => cs = [.int k n] ∧ bs = []
  | .bool b, cs, bs => cs = [.bool b] ∧ bs = []
  | .str s, cs, bs => cs = [.string s] ∧ bs = []
  | .list n f, cs, bs => ∃ A c, cs = [.slice A n c] ∧ n ≤ c ∧ ((n = 0 ∧ bs = []) ∨
      (0 < n ∧ ∃ (ad : Addr) (sz : Nat) (bf : Nat → List Nat), A = some ad ∧ 0 < sz ∧ bs = ad.block :: (List.range n).flatMap bf ∧
        ∀ i, i < n → ∃ ci, RepB w (f i) ci (bf i) ∧ ci.length = sz ∧ CellsAt w ad (i * sz) ci))
  | .anil, cs, bs => cs = [] ∧ bs = []
  | .acons x r, cs, bs => ∃ c1 c2 b1 b2, cs = c1 ++ c2 ∧ bs = b1 ++ b2 ∧ RepB w x c1 b1 ∧ RepB w r c2 b2
  | .ref x, cs, bs => ∃ ad c b, cs = [.pointer (some ad)] ∧ bs = ad.block :: b ∧ RepB w x c b ∧ 0 < c.length ∧ CellsAt w ad 0 c
  | .fn g caps, cs, bs => ∃ vs, cs = [.func (.func g) #[] vs.toArray] ∧ caps.capL = true ∧ RepB w caps vs bs
  | .err b, cs, bs => bs = [] ∧ (if b then ∃ t v, cs = [.iface t v] else cs = [.nilIface])
  | .nils, cs, bs => cs = [.slice none 0 0] ∧ bs = []
  | .tup _, _, _ => False

def Agr (w w' : World) (bs : List Nat) : Prop := ∀ b ∈ bs, w'.heap[b]? = w.heap[b]?

theorem add_block (ad : Addr) (n : Nat) : (ad.add n).block = ad.block := by unfold Addr.add; split <;> rfl
theorem add_add (ad : Addr) (m n : Nat) : (ad.add m).add n = ad.add (m + n) := by
  unfold Addr.add
  by_cases hm : m = 0
  · subst hm; simp
  · by_cases hn : n = 0
    · subst hn; simp [hm]
    · simp [hm, hn, Nat.add_assoc]

theorem CellsAt.agr {w w' : World} {ad : Addr} {o : Nat} {cs : List Value} (h : CellsAt w ad o cs) (ha : w'.heap[ad.block]? = w.heap[ad.block]?) : CellsAt w' ad o cs := by
  intro j v hv
  have := h j v hv
  rw [← this]
  exact World.cell?_of_block (by rw [add_block]; exact ha)

theorem RepB.agr {w w' : World} {x : D} {cs : List Value} {bs : List Nat} (h : RepB w x cs bs) (ha : Agr w w' bs) : RepB w' x cs bs := by
  induction x generalizing cs bs with
  | list n f ih =>
    obtain ⟨A, c, hc, hn, h⟩ := h
    refine ⟨A, c, hc, hn, ?_⟩
    rcases h with h | ⟨h0, ad, sz, bf, hA, hsz, hb, hall⟩
    · exact .inl h
    · refine .inr ⟨h0, ad, sz, bf, hA, hsz, hb, fun i hi => ?_⟩
      obtain ⟨ci, h1, h2, h3⟩ := hall i hi
      subst hb
      refine ⟨ci, ih i h1 (fun b hb => ha b (List.mem_cons_of_mem _ (List.mem_flatMap.2 ⟨i, List.mem_range.2 hi, hb⟩))), h2, h3.agr (ha _ (List.mem_cons_self ..))⟩
  | acons x r ih1 ih2 =>
    obtain ⟨c1, c2, b1, b2, hc, hb, h1, h2⟩ := h
    subst hb
    exact ⟨c1, c2, b1, b2, hc, rfl, ih1 h1 (fun b hb => ha b (List.mem_append.2 (.inl hb))), ih2 h2 (fun b hb => ha b (List.mem_append.2 (.inr hb)))⟩
  | ref x ih =>
    obtain ⟨ad, c, b, hc, hb, h1, h2, h3⟩ := h
    subst hb
    exact ⟨ad, c, b, hc, rfl, ih h1 (fun k hk => ha k (List.mem_cons_of_mem _ hk)), h2, h3.agr (ha _ (List.mem_cons_self ..))⟩
  | fn g caps ih =>
    obtain ⟨vs, hc, hl, h1⟩ := h
    exact ⟨vs, hc, hl, ih h1 ha⟩
  | tup x ih => exact h.elim
  | _ => exact h

theorem RepB.len {w : World} {x : D} {cs : List Value} {bs : List Nat} (h : RepB w x cs bs) : cs.length = x.sz := by
  induction x generalizing cs bs with
  | list n f ih => obtain ⟨A, c, rfl, _⟩ := h; rfl
  | acons x r ih1 ih2 =>
    obtain ⟨c1, c2, b1, b2, rfl, _, h1, h2⟩ := h
    simp [D.sz, ih1 h1, ih2 h2]
  | ref x ih => obtain ⟨ad, c, b, rfl, _⟩ := h; rfl
  | fn g caps ih => obtain ⟨vs, rfl, _⟩ := h; rfl
  | tup x ih => exact h.elim
  | err b => obtain ⟨_, h⟩ := h; cases b <;> simp at h <;> first | (obtain ⟨t, v, rfl⟩ := h; rfl) | (subst h; rfl)
  | _ => obtain ⟨rfl, _⟩ := h; rfl

theorem cell_lt {w : World} {a : Addr} {v : Value} (h : w.cell? a = some v) : a.block < w.heap.size := World.block_lt_of_cell? w a h

theorem CellsAt.lt {w : World} {ad : Addr} {o : Nat} {cs : List Value} (h : CellsAt w ad o cs) (h0 : 0 < cs.length) : ad.block < w.heap.size := by
  have := cell_lt (h 0 cs[0] (by simp [h0]))
  rwa [add_block] at this

theorem RepB.lt {w : World} {x : D} {cs : List Value} {bs : List Nat} (h : RepB w x cs bs) : ∀ b ∈ bs, b < w.heap.size := by
  induction x generalizing cs bs with
  | list n f ih =>
    obtain ⟨A, c, hc, hn, h⟩ := h
    rcases h with ⟨_, rfl⟩ | ⟨h0, ad, sz, bf, hA, hsz, rfl, hall⟩
    · simp
    · intro b hb
      rcases List.mem_cons.1 hb with rfl | hb
      · obtain ⟨ci, h1, h2, h3⟩ := hall 0 h0
        exact h3.lt (by omega)
      · obtain ⟨i, hi, hb⟩ := List.mem_flatMap.1 hb
        obtain ⟨ci, h1, h2, h3⟩ := hall i (List.mem_range.1 hi)
        exact ih i h1 b hb
  | acons x r ih1 ih2 =>
    obtain ⟨c1, c2, b1, b2, hc, rfl, h1, h2⟩ := h
    intro b hb
    rcases List.mem_append.1 hb with hb | hb
    · exact ih1 h1 b hb
    · exact ih2 h2 b hb
  | ref x ih =>
    obtain ⟨ad, c, b, hc, rfl, h1, h2, h3⟩ := h
    intro k hk
    rcases List.mem_cons.1 hk with rfl | hk
    · exact h3.lt h2
    · exact ih h1 k hk
  | fn g caps ih => obtain ⟨vs, hc, _, h1⟩ := h; exact ih h1
  | tup x ih => exact h.elim
  | err b => obtain ⟨rfl, _⟩ := h; simp
  | _ => obtain ⟨_, rfl⟩ := h; simp

theorem RepB.sim {w : World} {x y : D} {cs : List Value} {bs : List Nat} (h : RepB w x cs bs) (hs : D.sim x y) : RepB w y cs bs := by
  induction x generalizing y cs bs with
  | list n f ih =>
    cases y <;> simp only [D.sim] at hs
    rename_i m g
    obtain ⟨rfl, hs⟩ := hs
    obtain ⟨A, c, hc, hn, h⟩ := h
    refine ⟨A, c, hc, hn, ?_⟩
    rcases h with h | ⟨h0, ad, sz, bf, hA, hsz, hb, hall⟩
    · exact .inl h
    · refine .inr ⟨h0, ad, sz, bf, hA, hsz, hb, fun i hi => ?_⟩
      obtain ⟨ci, h1, h2, h3⟩ := hall i hi
      exact ⟨ci, ih i h1 (hs i hi), h2, h3⟩
  | acons x r ih1 ih2 =>
    cases y <;> simp only [D.sim] at hs
    obtain ⟨c1, c2, b1, b2, hc, hb, h1, h2⟩ := h
    exact ⟨c1, c2, b1, b2, hc, hb, ih1 h1 hs.1, ih2 h2 hs.2⟩
  | ref x ih =>
    cases y <;> simp only [D.sim] at hs
    obtain ⟨ad, c, b, hc, hb, h1, h2, h3⟩ := h
    exact ⟨ad, c, b, hc, hb, ih h1 hs, h2, h3⟩
  | fn g caps ih =>
    cases y <;> simp only [D.sim] at hs
    obtain ⟨rfl, hs⟩ := hs
    obtain ⟨vs, hc, hl, h1⟩ := h
    exact ⟨vs, hc, by rw [← D.sim_capL hs]; exact hl, ih h1 hs⟩
  | tup x ih => exact h.elim
  | int k n => cases y <;> simp only [D.sim] at hs; obtain ⟨rfl, rfl⟩ := hs; exact h
  | bool b => cases y <;> simp only [D.sim] at hs; subst hs; exact h
  | str b => cases y <;> simp only [D.sim] at hs; subst hs; exact h
  | err b => cases y <;> simp only [D.sim] at hs; subst hs; exact h
  | anil => cases y <;> simp only [D.sim] at hs; exact h
  | nils =>
    cases y <;> simp only [D.sim] at hs
    · subst hs; obtain ⟨rfl, rfl⟩ := h; exact ⟨none, 0, rfl, Nat.le_refl _, .inl ⟨rfl, rfl⟩⟩
    · exact h

theorem RepB.flat {w : World} {x : D} {cs : List Value} {bs : List Nat} (h : RepB w x cs bs) (hf : x.flat = true) : bs = [] := by
  induction x generalizing cs bs with
  | acons x r ih1 ih2 =>
    simp only [D.flat, Bool.and_eq_true] at hf
    obtain ⟨c1, c2, b1, b2, _, rfl, h1, h2⟩ := h
    rw [ih1 h1 hf.1, ih2 h2 hf.2]; rfl
  | tup x ih => exact h.elim
  | err b => exact h.1
  | list => simp [D.flat] at hf
  | ref => simp [D.flat] at hf
  | fn => simp [D.flat] at hf
  | _ => exact h.2

/-- One value of a datum. -/
def RepV (w : World) (x : D) (v : Value) (bs : List Nat) : Prop := if x.isAgg then ∃ cs, v = .agg cs.toArray ∧ RepB w x cs bs else RepB w x [v] bs

theorem RepV.cells {w : World} {x : D} {v : Value} {bs : List Nat} (h : RepV w x v bs) : RepB w x v.cells.toList bs := by
  unfold RepV at h
  split at h
  · obtain ⟨cs, rfl, h⟩ := h; simpa [Value.cells] using h
  · rename_i hx
    have : v.cells = #[v] := by
      cases x <;> simp [RepB, D.isAgg] at h hx <;> first
        | (obtain ⟨rfl, _⟩ := h; rfl)
        | (obtain ⟨A, c, rfl, _⟩ := h; rfl)
        | (obtain ⟨ad, c, rfl, _⟩ := h; rfl)
        | skip
      · obtain ⟨ad, rfl, _⟩ := h; rfl
      · obtain ⟨vs, rfl, _⟩ := h; rfl
      · rename_i b; obtain ⟨_, h⟩ := h; cases b <;> simp at h
        · subst h; rfl
        · obtain ⟨t, u, rfl⟩ := h; rfl
    rw [this]; exact h
theorem RepV.agr {w w' : World} {x : D} {v : Value} {bs : List Nat} (h : RepV w x v bs) (ha : Agr w w' bs) : RepV w' x v bs := by
  unfold RepV at *
  split at h
  · obtain ⟨cs, hv, h⟩ := h; rw [if_pos (by assumption)]; exact ⟨cs, hv, h.agr ha⟩
  · rw [if_neg (by assumption)]; exact h.agr ha
theorem RepV.lt {w : World} {x : D} {v : Value} {bs : List Nat} (h : RepV w x v bs) : ∀ b ∈ bs, b < w.heap.size := h.cells.lt
theorem RepV.sim {w : World} {x y : D} {v : Value} {bs : List Nat} (h : RepV w x v bs) (hs : D.sim x y) : RepV w y v bs := by
  unfold RepV at *
  rw [← D.sim_isAgg hs]
  split at h
  · obtain ⟨cs, hv, h⟩ := h; rw [if_pos (by assumption)]; exact ⟨cs, hv, h.sim hs⟩
  · rw [if_neg (by assumption)]; exact h.sim hs
theorem RepV.flat {w : World} {x : D} {v : Value} {bs : List Nat} (h : RepV w x v bs) (hf : x.flat = true) : bs = [] := h.cells.flat hf
theorem repV_one {w : World} {x : D} {v : Value} {bs : List Nat} (hx : x.isAgg = false) : RepV w x v bs ↔ RepB w x [v] bs := by unfold RepV; simp [hx]
theorem repV_agg {w : World} {x : D} {v : Value} {bs : List Nat} (hx : x.isAgg = true) : RepV w x v bs ↔ ∃ cs, v = .agg cs.toArray ∧ RepB w x cs bs := by unfold RepV; simp [hx]

/-- Several values: arguments, the components of several results. -/
def RepT (w : World) : D → List Value → List Nat → Prop
  | .acons x r, vs, bs => ∃ v vs' b1 b2, vs = v :: vs' ∧ bs = b1 ++ b2 ∧ RepV w x v b1 ∧ RepT w r vs' b2
  | .anil, vs, bs => vs = [] ∧ bs = []
  | _, _, _ => False
theorem RepT.agr {w w' : World} {x : D} {vs : List Value} {bs : List Nat} (h : RepT w x vs bs) (ha : Agr w w' bs) : RepT w' x vs bs := by
  induction x generalizing vs bs with
  | acons x r ih1 ih2 =>
    obtain ⟨v, vs', b1, b2, hv, rfl, h1, h2⟩ := h
    exact ⟨v, vs', b1, b2, hv, rfl, h1.agr (fun b hb => ha b (List.mem_append.2 (.inl hb))), ih2 h2 (fun b hb => ha b (List.mem_append.2 (.inr hb)))⟩
  | anil => exact h
  | _ => exact h.elim
theorem RepT.lt {w : World} {x : D} {vs : List Value} {bs : List Nat} (h : RepT w x vs bs) : ∀ b ∈ bs, b < w.heap.size := by
  induction x generalizing vs bs with
  | acons x r ih1 ih2 =>
    obtain ⟨v, vs', b1, b2, hv, rfl, h1, h2⟩ := h
    intro b hb
    rcases List.mem_append.1 hb with hb | hb
    · exact h1.lt b hb
    · exact ih2 h2 b hb
  | anil => obtain ⟨_, rfl⟩ := h; simp
  | _ => exact h.elim
theorem RepT.sim {w : World} {x y : D} {vs : List Value} {bs : List Nat} (h : RepT w x vs bs) (hs : D.sim x y) : RepT w y vs bs := by
  induction x generalizing y vs bs with
  | acons x r ih1 ih2 =>
    cases y <;> simp only [D.sim] at hs
    obtain ⟨v, vs', b1, b2, hv, hb, h1, h2⟩ := h
    exact ⟨v, vs', b1, b2, hv, hb, h1.sim hs.1, ih2 h2 hs.2⟩
  | anil => cases y <;> simp only [D.sim] at hs; exact h
  | _ => exact h.elim
theorem RepT.flat {w : World} {x : D} {vs : List Value} {bs : List Nat} (h : RepT w x vs bs) (hf : x.flat = true) : bs = [] := by
  induction x generalizing vs bs with
  | acons x r ih1 ih2 =>
    simp only [D.flat, Bool.and_eq_true] at hf
    obtain ⟨v, vs', b1, b2, _, rfl, h1, h2⟩ := h
    rw [h1.flat hf.1, ih2 h2 hf.2]; rfl
  | anil => exact h.2
  | _ => exact h.elim

theorem repT_of_caps {w : World} : ∀ (x : D) {vs : List Value} {bs : List Nat}, RepB w x vs bs → x.capL = true → RepT w x vs bs
  | .anil, vs, bs, h, _ => h
  | .acons x r, vs, bs, h, hc => by
    simp [D.capL] at hc
    obtain ⟨c1, c2, b1, b2, rfl, rfl, h1, h2⟩ := h
    have hl : c1.length = 1 := by rw [h1.len]; cases x <;> simp_all [D.sz, D.isAgg, RepB]
    obtain ⟨v, rfl⟩ : ∃ v, c1 = [v] := by
      match c1, hl with
      | [v], _ => exact ⟨v, rfl⟩
    exact ⟨v, c2, b1, b2, rfl, rfl, (repV_one hc.1).2 h1, repT_of_caps r h2 hc.2⟩
  | .int _ _, _, _, _, hc => by simp [D.capL] at hc
  | .bool _, _, _, _, hc => by simp [D.capL] at hc
  | .str _, _, _, _, hc => by simp [D.capL] at hc
  | .list _ _, _, _, _, hc => by simp [D.capL] at hc
  | .ref _, _, _, _, hc => by simp [D.capL] at hc
  | .fn _ _, _, _, _, hc => by simp [D.capL] at hc
  | .err _, _, _, _, hc => by simp [D.capL] at hc
  | .nils, _, _, _, hc => by simp [D.capL] at hc
  | .tup _, _, _, _, hc => by simp [D.capL] at hc

/-- What a call hands back. -/
def RepR (w : World) (y : D) (v : Value) (bs : List Nat) : Prop :=
  match y with
  | .tup l => ∃ vs, v = .tuple vs.toArray ∧ RepT w l vs bs
  | y => RepV w y v bs
theorem RepR.agr {w w' : World} {x : D} {v : Value} {bs : List Nat} (h : RepR w x v bs) (ha : Agr w w' bs) : RepR w' x v bs := by
  cases x with
  | tup l => obtain ⟨vs, hv, h⟩ := h; exact ⟨vs, hv, h.agr ha⟩
  | _ => exact RepV.agr h ha
theorem RepR.lt {w : World} {x : D} {v : Value} {bs : List Nat} (h : RepR w x v bs) : ∀ b ∈ bs, b < w.heap.size := by
  cases x with
  | tup l => obtain ⟨vs, hv, h⟩ := h; exact h.lt
  | _ => exact RepV.lt h
theorem RepR.sim {w : World} {x y : D} {v : Value} {bs : List Nat} (h : RepR w x v bs) (hs : D.sim x y) : RepR w y v bs := by
  cases x with
  | tup l =>
    cases y <;> simp only [D.sim] at hs
    obtain ⟨vs, hv, h⟩ := h
    exact ⟨vs, hv, h.sim hs⟩
  | _ => cases y <;> first | (simp only [D.sim] at hs; done) | exact RepV.sim h hs | (exact absurd hs (by simp [D.sim]))
theorem RepR.flat {w : World} {x : D} {v : Value} {bs : List Nat} (h : RepR w x v bs) (hf : x.flat = true) : bs = [] := by
  cases x with
  | tup l => obtain ⟨vs, hv, h⟩ := h; exact h.flat hf
  | _ => exact RepV.flat h hf

/-- How the result's memory lies: anywhere; all new; all new, no block twice. -/
inductive Fl where
  | any | fresh | sep
  deriving DecidableEq

def FlOK (fl : Fl) (base : Nat) (argB bs : List Nat) : Prop :=
  match fl with
  | .any => ∀ b ∈ bs, b ∈ argB ∨ base ≤ b
  | .fresh => ∀ b ∈ bs, base ≤ b
  | .sep => (∀ b ∈ bs, base ≤ b) ∧ bs.Nodup

/-- A call, whether it enters a body or is carried out by the machine itself. -/
def CallRes (P : Program) (f : Nat) (vals : Array Value) (w : World) (R : Value → World → Prop) : Prop :=
  match (callFunc f vals).run P w with
  | .ok (.enter f' args) w' => Calls P f' args w' fun e w'' => ∃ v, e = .returned v ∧ R v w''
  | .ok (.value v) w' => R v w'
  | .ok (.row row args) w' => Rows P row args w' R
  | _ => False
theorem CallRes.mono {P : Program} {f : Nat} {vals : Array Value} {w : World} {R R' : Value → World → Prop} (h : CallRes P f vals w R) (hr : ∀ v w', R v w' → R' v w') : CallRes P f vals w R' := by
  unfold CallRes at *
  split at h
  · exact h.mono fun e w' ⟨v, he, h⟩ => ⟨v, he, hr _ _ h⟩
  · exact hr _ _ h
  · exact h.mono hr
  · exact h.elim

/-- WHAT A FUNCTION GIVES: called with values that stand for 'args', in whatever world in which J holds, it returns a value that stands for y; all that lay before lies unturned. -/
def Gives (P : Program) (J : World → Prop) (f : Nat) (fl : Fl) (args y : D) : Prop :=
  ∀ w vals bs, J w → RepT w args vals bs → CallRes P f vals.toArray w fun v w' =>
    ∃ bs', RepR w' y v bs' ∧ FlOK fl w.heap.size bs bs' ∧ Below w.heap.size w w'

theorem FlOK.any {fl : Fl} {base : Nat} {argB bs : List Nat} (h : FlOK fl base argB bs) : FlOK .any base argB bs := by
  cases fl with
  | any => exact h
  | fresh => exact fun b hb => .inr (h b hb)
  | sep => exact fun b hb => .inr (h.1 b hb)
theorem FlOK.nil (fl : Fl) (base : Nat) (argB : List Nat) : FlOK fl base argB [] := by
  cases fl <;> simp [FlOK]
theorem Gives.sim {P : Program} {J : World → Prop} {f : Nat} {fl : Fl} {x x' y y' : D} (h : Gives P J f fl x y) (hx : D.sim x' x) (hy : D.sim y y') : Gives P J f fl x' y' :=
  fun w vals bs hj hr => (h w vals bs hj (hr.sim hx)).mono fun _ _ ⟨bs', h1, h2, h3⟩ => ⟨bs', h1.sim hy, h2, h3⟩
theorem Gives.flat {P : Program} {J : World → Prop} {f : Nat} {fl fl' : Fl} {x y : D} (h : Gives P J f fl x y) (hy : y.flat = true) : Gives P J f fl' x y :=
  fun w vals bs hj hr => (h w vals bs hj hr).mono fun _ _ ⟨bs', h1, h2, h3⟩ => by
    have := h1.flat hy; subst this
    exact ⟨[], h1, FlOK.nil _ _ _, h3⟩
theorem Gives.any {P : Program} {J : World → Prop} {f : Nat} {fl : Fl} {x y : D} (h : Gives P J f fl x y) : Gives P J f .any x y :=
  fun w vals bs hj hr => (h w vals bs hj hr).mono fun _ _ ⟨bs', h1, h2, h3⟩ => ⟨bs', h1, h2.any, h3⟩

end Go.Proofs.Ytomhkcemkapmpaa
