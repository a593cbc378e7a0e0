/- Loops and drawn regions, by simp. For every world: no condition. -/
import Derived.Test.YtomhkcemkapmpaaDv
namespace Go.Proofs.Ytomhkcemkapmpaa
open Go Go.RowKit
set_option linter.unusedVariables false
set_option linter.unusedSimpArgs false

theorem loop_by {body : St → (DEx → St → Prop) → Prop} {st : St} {K : DEx → St → Prop} (n0 : Nat) (ι : Type) (S : ι → St) (m : ι → Nat) (i0 : ι) (h0 : WkOK n0 st (S i0))
    (h : ∀ i, body (S i) (hd (fun e st' => match e with | .normal => ∃ j, WkOK n0 st' (S j) ∧ m j < m i | e => K e st') .mk)) : LoopVC body st K := ⟨n0, ι, S, m, ⟨i0, h0⟩, h⟩

/-! ### Drawn regions, by simp -/
section
variable (P : Program) (Z : Nat → Option D) (J : World → Prop) (N : Nat) (st : St) (K : St → Prop) (ob : Nat → Option Ob) (ρ : Operand → SV) (id : Nat) (Ko : SV → Option Ob → Prop)
theorem z_nil (T : List (List Nat)) : zipT T [] = [] := by cases T <;> rfl
theorem z_cons (x : List Nat) (T : List (List Nat)) (o : Oper) (l : List Oper) : zipT (x :: T) (o :: l) = (x, o) :: zipT T l := rfl
theorem d_nil (dd : Nat → Option Nat) (s nx0 i : Nat) : evDr P Z J N dd s nx0 i [] st K = K { st with nx := nx0 + (i - s) } := rfl
theorem d_cons (dd : Nat → Option Nat) (s nx0 i : Nat) (anc : List Nat) (d : Option Nat) (op : Op) (ty : Nat) (pos : String) (af : Array Edge) (r : List (List Nat × Oper)) : evDr P Z J N dd s nx0 i ((anc, ⟨d, op, ty, pos, af, none⟩) :: r) st K =
    if isEff op = true then thenSt { st with nx := nx0 + (i - s) } (hd (fun st1 => evStep P Z J N ⟨d, op, ty, pos, af, none⟩ st1 (hd (fun st' => evDr P Z J N dd (i + 1) st'.nx (i + 1) r st' K) .mk)) .mk)
    else dstOK N d ∧ evP P Z J (obR anc s nx0 (getO st.obs)) st.opd (nx0 + (i - s)) op (hd (fun r' nob => thenSt (st.made (nx0 + (i - s)) d r' nob) (hd (fun st' => evDr P Z J N dd s nx0 (i + 1) r st' K) .mk)) .mk) := by
  simp only [evDr, true_and, hd, thenSt]; rfl
theorem d_guard (dd : Nat → Option Nat) (s nx0 i : Nat) (anc : List Nat) (d : Option Nat) (op : Op) (ty : Nat) (pos : String) (af : Array Edge) (j : Nat) (want : Bool) (r : List (List Nat × Oper)) : evDr P Z J N dd s nx0 i ((anc, ⟨d, op, ty, pos, af, some (j, want)⟩) :: r) st K =
    if isEff op = true then False
    else match dd j with
      | some t => vBool (getE st.env t) (hd (fun b => onBool b (hd (fun b' =>
          if b' = want then thenSt (st.fixB t b') (hd (fun st1 => dstOK N d ∧ evP P Z J (obR anc s nx0 (getO st1.obs)) st1.opd (nx0 + (i - s)) op (hd (fun r' nob => thenSt (st1.made (nx0 + (i - s)) d r' nob) (hd (fun st' => evDr P Z J N dd s nx0 (i + 1) r st' K) .mk)) .mk)) .mk)
          else dstOK N d ∧ thenSt ((st.fixB t b').put d .junk) (hd (fun st1 => evDr P Z J N dd s nx0 (i + 1) r st1 K) .mk)) .mk)) .mk)
      | none => False := by
  simp only [evDr, reduceCtorEq, false_and, hd, thenSt]; rfl
theorem p_move (x : Operand) : evP P Z J ob ρ id (.move x) Ko = Ko (ρ x) none := rfl
theorem p_assign (x : Operand) : evP P Z J ob ρ id (.assign x) Ko = Ko (ρ x) none := rfl
theorem p_pick (c a b : Operand) : evP P Z J ob ρ id (.pick c a b) Ko = vBool (ρ c) (hd (fun c => onBool c (hd (fun c' => Ko (if c' = true then ρ a else ρ b) none) .mk)) .mk) := rfl
theorem p_alloc (t : Nat) : evP P Z J ob ρ id (.alloc t) Ko = evAlloc Z id t Ko := rfl
theorem p_box (t : Nat) (x : Operand) : evP P Z J ob ρ id (.box t x) Ko = evBox id t (ρ x) Ko := rfl
theorem p_build (t : Nat) (ps : Array (Nat × Operand)) : evP P Z J ob ρ id (.build t ps) Ko = evBuild P Z t (ps.toList.map fun p => (p.1, ρ p.2)) (hd (fun r => Ko r none) .mk) := rfl
theorem p_buildSlice (t len : Nat) (ps : Array (Nat × Operand)) : evP P Z J ob ρ id (.buildSlice t len ps) Ko = evBuildSlice P t len id (ps.toList.map fun p => (p.1, ρ p.2)) Ko := rfl
theorem p_load (t : Nat) (p : Operand) : evP P Z J ob ρ id (.load t p) Ko = evLoad P t (ρ p) ob (hd (fun r => Ko r none) .mk) := rfl
theorem p_binOp (op : BinOp) (t t' : Nat) (x y : Operand) : evP P Z J ob ρ id (.binOp op t x y t') Ko = evBin P op t (ρ x) (ρ y) (hd (fun r => Ko (.d true [] r) none) .mk) := rfl
theorem p_unOp (op : UnOp) (t : Nat) (x : Operand) : evP P Z J ob ρ id (.unOp op t x) Ko = evUn op (ρ x) (hd (fun r => Ko (.d true [] r) none) .mk) := rfl
theorem p_convert (s t : Nat) (x : Operand) : evP P Z J ob ρ id (.convert s t x) Ko = evConv P s t (ρ x) (hd (fun r => Ko r none) .mk) := rfl
theorem p_makeFunc (f : Nat) (fs cs : Array Operand) : evP P Z J ob ρ id (.makeFunc (.func f) fs cs) Ko = (fs.size = 0 ∧ Ko (.cl f (clCaps (cs.toList.map ρ))) none) := rfl
theorem p_makeSlice (t : Nat) (l c : Operand) : evP P Z J ob ρ id (.makeSlice t l c) Ko = evMake P Z id t (ρ l) (ρ c) Ko := rfl
theorem p_slice (t : Nat) (x : Operand) (lo hi : Option Operand) : evP P Z J ob ρ id (.slice t x lo hi none) Ko = evSlice P t (ρ x) (lo.map ρ) (hi.map ρ) (hd (fun r => Ko r none) .mk) := rfl
theorem p_fieldAddr (t k : Nat) (x : Operand) : evP P Z J ob ρ id (.fieldAddr t x k) Ko = evFieldAddr P t k (ρ x) ob (hd (fun r => Ko r none) .mk) := rfl
theorem p_field (t k : Nat) (x : Operand) : evP P Z J ob ρ id (.field t x k) Ko = evField P t k (ρ x) (hd (fun r => Ko r none) .mk) := rfl
theorem p_indexAddr (t : Nat) (x i : Operand) : evP P Z J ob ρ id (.indexAddr t x i) Ko = vInt (ρ i) (hd (fun _ n => evIdx P t (ρ x) ob n (hd (fun r => Ko r none) .mk)) .mk) := rfl
theorem p_index (t : Nat) (x i : Operand) : evP P Z J ob ρ id (.index t x i) Ko = vInt (ρ i) (hd (fun _ n => evIndex P t (ρ x) n (hd (fun r => Ko r none) .mk)) .mk) := rfl
theorem p_nilCheck (x : Operand) : evP P Z J ob ρ id (.nilCheck x) Ko = evNil (ρ x) ob (hd (fun r => Ko r none) .mk) := rfl
theorem p_extract (k : Nat) (x : Operand) : evP P Z J ob ρ id (.extract x k) Ko = evExtract k (ρ x) (hd (fun r => Ko r none) .mk) := rfl
theorem p_len (x : Operand) (t : Nat) : evP P Z J ob ρ id (.call ⟨.builtin .len, #[x], #[t]⟩) Ko = evLen P t (ρ x) ob (hd (fun r => Ko (.d true [] r) none) .mk) := rfl
theorem p_call (f : Operand) (xs : Array Operand) (ts : Array Nat) : evP P Z J ob ρ id (.call ⟨.value f, xs, ts⟩) Ko = evCall P J ob id (ρ f) (xs.toList.map ρ) (hd (fun r => Ko r none) .mk) := rfl
end
end Go.Proofs.Ytomhkcemkapmpaa
