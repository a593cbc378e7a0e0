/- Evaluation by simp ('simp -dsimp only'): what follows a step is held shut until the step's data are simplified. For every world: no condition. -/
import Derived.Test.YtomhkcemkapmpaaDo
namespace Go.Proofs.Ytomhkcemkapmpaa
open Go Go.RowKit
set_option linter.unusedVariables false
set_option linter.unusedSimpArgs false

/-! ### What follows, held shut -/
inductive Wit {α : Type} (k : α) : Type | mk
def hd {α : Type} (K : α) (_ : Wit K) : α := K
theorem hd_app {α : Type} {β : Type} (K : α → β) (w : Wit K) (x : α) : hd K w x = K x := rfl
def thenSt (st : St) (K : St → Prop) : Prop := K st

section
variable (P : Program) (Z : Nat → Option D) (J : World → Prop) (N : Nat) (st : St) (K : St → Prop) (L : DEx → St → Prop)

/-! ### Code -/
theorem c_skip : evC P Z J N .skip st L = L .normal st := rfl
theorem c_ret : evC P Z J N .ret st L = L .ret st := rfl
theorem c_exit (id : Nat) : evC P Z J N (.exit id) st L = L (.exit id) st := rfl
theorem c_region (id : Nat) (ops : Array Oper) : evC P Z J N (.region id ops false) st L = evOps P Z J N (fun j => (ops[j]?).bind (·.dst)) ops.toList st (hd (L .normal) .mk) := rfl
theorem c_draw (id : Nat) (ops : Array Oper) : evC P Z J N (.region id ops true) st L = DrawVC P Z J N ops st (hd (L .normal) .mk) := rfl
theorem c_seq (x y : Code) : evC P Z J N (.seq x y) st L = evC P Z J N x st (hd (fun e st' => match e with | .normal => evC P Z J N y st' L | e => L e st') .mk) := rfl
theorem onBool_ite (b : Bool) (K : Bool → Prop) : onBool b K = if b = true then K true else K false := by cases b <;> simp [onBool]
theorem c_cond (c : Operand) (x y : Code) : evC P Z J N (.cond c x y) st L =
    vBool (st.opd c) (hd (fun b => onBool b (hd (fun b' => if b' = true then evC P Z J N x (st.fixC c true) L else evC P Z J N y (st.fixC c false) L) .mk)) .mk) := rfl
theorem c_block (id : Nat) (x : Code) : evC P Z J N (.block id x) st L = evC P Z J N x st (hd (fun e st' => match e with | .exit j => if j = id then L .normal st' else L (.exit j) st' | e => L e st') .mk) := rfl
theorem c_loop (x : Code) : evC P Z J N (.loop x) st L = LoopVC (hd (fun st K => evC P Z J N x st K) .mk) st L := rfl

/-! ### Operations -/
variable (dd : Nat → Option Nat) (d : Option Nat) (ty : Nat) (pos : String) (af : Array Edge) (gu : Option (Nat × Bool))
theorem o_nil : evOps P Z J N dd [] st K = K st := rfl
theorem o_cons (op : Op) (r : List Oper) : evOps P Z J N dd (⟨d, op, ty, pos, af, none⟩ :: r) st K = evStep P Z J N ⟨d, op, ty, pos, af, none⟩ st (hd (fun st' => evOps P Z J N dd r st' K) .mk) := rfl
theorem o_guard (op : Op) (r : List Oper) (j : Nat) (want : Bool) : evOps P Z J N dd (⟨d, op, ty, pos, af, some (j, want)⟩ :: r) st K =
    match dd j with
    | some t => vBool (getE st.env t) (hd (fun b => onBool b (hd (fun b' => if b' = want then thenSt (st.fixB t b') (hd (fun st1 => evStep P Z J N ⟨d, op, ty, pos, af, some (j, want)⟩ st1 (hd (fun st' => evOps P Z J N dd r st' K) .mk)) .mk)
          else dstOK N d ∧ thenSt ((st.fixB t b').put d .junk) (hd (fun st1 => evOps P Z J N dd r st1 K) .mk)) .mk)) .mk)
    | none => False := rfl
theorem s_move (x : Operand) : evStep P Z J N ⟨d, .move x, ty, pos, af, gu⟩ st K = (dstOK N d ∧ K (st.left d (st.opd x) none)) := rfl
theorem s_assign (x : Operand) : evStep P Z J N ⟨d, .assign x, ty, pos, af, gu⟩ st K = (dstOK N d ∧ K (st.left d (st.opd x) none)) := rfl
theorem s_pick (c a b : Operand) : evStep P Z J N ⟨d, .pick c a b, ty, pos, af, gu⟩ st K = (dstOK N d ∧ vBool (st.opd c) (hd (fun c => onBool c (hd (fun c' => K (st.left d (if c' = true then st.opd a else st.opd b) none)) .mk)) .mk)) := rfl
theorem s_alloc (t : Nat) : evStep P Z J N ⟨d, .alloc t, ty, pos, af, gu⟩ st K = (dstOK N d ∧ evAlloc Z st.nx t (hd (fun r nob => K (st.left d r nob)) .mk)) := rfl
theorem s_box (t : Nat) (x : Operand) : evStep P Z J N ⟨d, .box t x, ty, pos, af, gu⟩ st K = (dstOK N d ∧ thenSt (st.frzX x) (hd (fun s1 => evBox s1.nx t (s1.opd x) (hd (fun r nob => K (s1.left d r nob)) .mk)) .mk)) := rfl
theorem s_build (t : Nat) (ps : Array (Nat × Operand)) : evStep P Z J N ⟨d, .build t ps, ty, pos, af, gu⟩ st K = (dstOK N d ∧ thenSt (st.frzL (ps.toList.map (·.2))) (hd (fun s1 => evBuild P Z t (ps.toList.map fun p => (p.1, s1.opd p.2)) (hd (fun r => K (s1.left d r none)) .mk)) .mk)) := rfl
theorem s_buildSlice (t len : Nat) (ps : Array (Nat × Operand)) : evStep P Z J N ⟨d, .buildSlice t len ps, ty, pos, af, gu⟩ st K =
    (dstOK N d ∧ thenSt (st.frzL (ps.toList.map (·.2))) (hd (fun s1 => evBuildSlice P t len s1.nx (ps.toList.map fun p => (p.1, s1.opd p.2)) (hd (fun r nob => K (s1.left d r nob)) .mk)) .mk)) := rfl
theorem s_load (t : Nat) (p : Operand) : evStep P Z J N ⟨d, .load t p, ty, pos, af, gu⟩ st K = (dstOK N d ∧ evLoad P t (st.opd p) (getO st.obs) (hd (fun r => K (st.left d r none)) .mk)) := rfl
theorem s_binOp (op : BinOp) (t t' : Nat) (x y : Operand) : evStep P Z J N ⟨d, .binOp op t x y t', ty, pos, af, gu⟩ st K = (dstOK N d ∧ evBin P op t (st.opd x) (st.opd y) (hd (fun r => K (st.left d (.d true [] r) none)) .mk)) := rfl
theorem s_unOp (op : UnOp) (t : Nat) (x : Operand) : evStep P Z J N ⟨d, .unOp op t x, ty, pos, af, gu⟩ st K = (dstOK N d ∧ evUn op (st.opd x) (hd (fun r => K (st.left d (.d true [] r) none)) .mk)) := rfl
theorem s_convert (s t : Nat) (x : Operand) : evStep P Z J N ⟨d, .convert s t x, ty, pos, af, gu⟩ st K = (dstOK N d ∧ evConv P s t (st.opd x) (hd (fun r => K (st.left d r none)) .mk)) := rfl
theorem s_makeFunc (f : Nat) (fs cs : Array Operand) : evStep P Z J N ⟨d, .makeFunc (.func f) fs cs, ty, pos, af, gu⟩ st K = (dstOK N d ∧ fs.size = 0 ∧ K (st.left d (.cl f (clCaps (cs.toList.map st.opd))) none)) := rfl
theorem s_makeSlice (t : Nat) (l c : Operand) : evStep P Z J N ⟨d, .makeSlice t l c, ty, pos, af, gu⟩ st K = (dstOK N d ∧ evMake P Z st.nx t (st.opd l) (st.opd c) (hd (fun r nob => K (st.left d r nob)) .mk)) := rfl
theorem s_slice (t : Nat) (x : Operand) (lo hi : Option Operand) : evStep P Z J N ⟨d, .slice t x lo hi none, ty, pos, af, gu⟩ st K = (dstOK N d ∧ evSlice P t (st.opd x) (lo.map st.opd) (hi.map st.opd) (hd (fun r => K (st.left d r none)) .mk)) := rfl
theorem s_fieldAddr (t k : Nat) (x : Operand) : evStep P Z J N ⟨d, .fieldAddr t x k, ty, pos, af, gu⟩ st K = (dstOK N d ∧ evFieldAddr P t k (st.opd x) (getO st.obs) (hd (fun r => K (st.left d r none)) .mk)) := rfl
theorem s_field (t k : Nat) (x : Operand) : evStep P Z J N ⟨d, .field t x k, ty, pos, af, gu⟩ st K = (dstOK N d ∧ evField P t k (st.opd x) (hd (fun r => K (st.left d r none)) .mk)) := rfl
theorem s_indexAddr (t : Nat) (x i : Operand) : evStep P Z J N ⟨d, .indexAddr t x i, ty, pos, af, gu⟩ st K = (dstOK N d ∧ vInt (st.opd i) (hd (fun _ n => evIdx P t (st.opd x) (getO st.obs) n (hd (fun r => K (st.left d r none)) .mk)) .mk)) := rfl
theorem s_nilCheck (x : Operand) : evStep P Z J N ⟨d, .nilCheck x, ty, pos, af, gu⟩ st K = (dstOK N d ∧ evNil (st.opd x) (getO st.obs) (hd (fun r => K (st.left d r none)) .mk)) := rfl
theorem s_extract (k : Nat) (x : Operand) : evStep P Z J N ⟨d, .extract x k, ty, pos, af, gu⟩ st K = (dstOK N d ∧ evExtract k (st.opd x) (hd (fun r => K (st.left d r none)) .mk)) := rfl
def evIndex (P : Program) (t : Nat) (x : SV) (n : Int) (K : SV → Prop) : Prop := match x with
  | .d _ _ (.str s) => stOf P t = true ∧ 0 ≤ n ∧ n < s.size ∧ K (.d true [] (.int .u8 (s.get! n.toNat).toNat))
  | _ => False
theorem s_index (t : Nat) (x i : Operand) : evStep P Z J N ⟨d, .index t x i, ty, pos, af, gu⟩ st K = (dstOK N d ∧ vInt (st.opd i) (hd (fun _ n => evIndex P t (st.opd x) n (hd (fun r => K (st.left d r none)) .mk)) .mk)) := rfl
theorem s_len (x : Operand) (t : Nat) : evStep P Z J N ⟨d, .call ⟨.builtin .len, #[x], #[t]⟩, ty, pos, af, gu⟩ st K = (dstOK N d ∧ evLen P t (st.opd x) (getO st.obs) (hd (fun r => K (st.left d (.d true [] r) none)) .mk)) := rfl
theorem s_call (f : Operand) (xs : Array Operand) (ts : Array Nat) : evStep P Z J N ⟨d, .call ⟨.value f, xs, ts⟩, ty, pos, af, gu⟩ st K = (dstOK N d ∧ evCall P J (getO st.obs) st.nx (st.opd f) (xs.toList.map st.opd) (hd (fun r => K (st.left d r none)) .mk)) := rfl
theorem s_append (s x : Operand) (t t' : Nat) : evStep P Z J N ⟨d, .call ⟨.builtin .append, #[s, x], #[t, t']⟩, ty, pos, af, gu⟩ st K = (dstOK N d ∧ t' = t ∧ evAppend P Z d t s x st K) := rfl
theorem s_store (t : Nat) (p x : Operand) : evStep P Z J N ⟨d, .store t p x, ty, pos, af, gu⟩ st K = (dstOK N d ∧ d = none ∧ evStore P t p x st K) := rfl
def evSt2 (o : Option Ob) (P : Program) (t : Nat) (_s1 : St) (x p : SV) (K : Ob → Prop) : Prop := match o with
  | some o => stOb x P t o p K
  | none => False
theorem a_store (t : Nat) (p x : Operand) : evStore P t p x st K = thenSt (st.frzX x) (hd (fun s1 => evSt2 (getO s1.obs (stId (s1.opd p))) P t s1 (s1.opd x) (s1.opd p) (hd (fun o' => K (s1.setOb (stId (s1.opd p)) o')) .mk)) .mk) := by
  unfold evStore thenSt hd evSt2; rfl
end
section
variable (P : Program) (Z : Nat → Option D) (J : World → Prop) (st : St) (K : St → Prop) (K3 : Bool → List Nat → D → Prop) (Kr : SV → Prop) (Ko : SV → Option Ob → Prop) (pr re pr0 re0 : _)
theorem addR_ite (x : D) (p : Bool) (r : List Nat) (p0 : Bool) (r0 : List Nat) (K : Bool → List Nat → Prop) : addR x p r p0 r0 K = if x.flat = true then K p0 r0 else K (p0 && p) (r0 ++ r) := rfl
theorem f_nil (pl : List (Nat × Nat)) (z : D) (pr : Bool) (re : List Nat) : evFill pl z pr re [] Kr = Kr (.d pr re z) := rfl
theorem f_cons (pl : List (Nat × Nat)) (z : D) (pr : Bool) (re : List Nat) (k : Nat) (s : SV) (rest : List (Nat × SV)) : evFill pl z pr re ((k, s) :: rest) Kr =
    asD s (hd (fun p r x => (k < z.nfld ∧ pl[k]? = some (z.offs k, x.sz) ∧ (z.fld k).sz = x.sz) ∧ addR x p r pr re (hd (fun pr' re' => evFill pl (z.setFld k x) pr' re' rest Kr) .mk)) .mk) := rfl
theorem e_cons (sz i k : Nat) (s : SV) (rest : List (Nat × SV)) (pr : Bool) (re : List Nat) (xs : List D) (KL : Bool → List Nat → List D → Prop) : evElems sz i ((k, s) :: rest) pr re xs KL =
    (k = i ∧ asD s (hd (fun p r x => x.sz = sz ∧ addR x p r pr re (hd (fun pr' re' => evElems sz (i + 1) rest pr' re' (xs ++ [x]) KL) .mk)) .mk)) := rfl
theorem b_box (id t : Nat) (s : SV) : evBox id t s Ko = asD s (hd (fun pr re x => 0 < x.sz ∧ Ko (.bx id) (some (.var pr re x t))) .mk) := rfl
theorem k_cl (ob : Nat → Option Ob) (id f : Nat) (caps : SV) (args : List SV) : evCall P J ob id (.cl f caps) args Kr = ((args.all (·.good ob) && caps.goodL ob) = true ∧ CallVC P J f (dargs ob args (caps.viewL ob)) (hd (fun fl y =>
      resSV id (args.all (·.imm) && (match caps with | .cnil => true | _ => false)) (args.flatMap (·.rgs)) fl y Kr) .mk)) := rfl
theorem k_fn (ob : Nat → Option Ob) (id f : Nat) (caps : D) (pr : Bool) (re : List Nat) (args : List SV) : evCall P J ob id (.d pr re (.fn f caps)) args Kr = ((args.all (·.good ob)) = true ∧ CallVC P J f (dargs ob args caps) (hd (fun fl y =>
      resSV id (args.all (·.imm)) (re ++ args.flatMap (·.rgs)) fl y Kr) .mk)) := rfl
theorem r_ret (rs : List ResultVar) (fl : Fl) (y : D) : retK P rs fl y .ret st = evRes P rs st true [] (hd (fun pr re l => D.sim (pack l) y ∧ FlS fl pr re) .mk) := rfl
theorem r_normal (rs : List ResultVar) (fl : Fl) (y : D) : retK P rs fl y .normal st = evRes P rs st true [] (hd (fun pr re l => D.sim (pack l) y ∧ FlS fl pr re) .mk) := rfl
theorem v_nil (pr : Bool) (re : List Nat) : evRes P [] st pr re K3 = K3 pr re .anil := rfl
theorem v_tmp (t : Nat) (l : List ResultVar) (pr : Bool) (re : List Nat) : evRes P (.tmp t :: l) st pr re K3 = thenSt (st.frzT t) (hd (fun s1 => asD (getE s1.env t) (hd (fun p r x => addR x p r pr re (hd (fun pr' re' => evRes P l s1 pr' re' (hd (fun pr'' re'' y => K3 pr'' re'' (.acons x y)) .mk)) .mk)) .mk)) .mk) := rfl
def evRes2 (P : Program) (t : Nat) (s : SV) (obs : List (Nat × Ob)) (K : Bool → List Nat → D → Prop) : Prop := match s with
    | .bx id => (match getO obs id with
      | some (.var p r x _) => loadOK P t x ∧ K p r x
      | _ => False)
    | _ => False
theorem v_cell (a t : Nat) (l : List ResultVar) (pr : Bool) (re : List Nat) : evRes P (.cell a t :: l) st pr re K3 = evRes2 P t (getE st.env a) st.obs (hd (fun p r x => addR x p r pr re (hd (fun pr' re' => evRes P l st pr' re' (hd (fun pr'' re'' y => K3 pr'' re'' (.acons x y)) .mk)) .mk)) .mk) := rfl
def evApp1 (P : Program) (Z : Nat → Option D) (dst : Option Nat) (t : Nat) (s : SV) (st : St) (pr2 : Bool) (re2 : List Nat) (y : D) (o : Nat → Option Ob) (K : St → Prop) : Prop := match s with
    | .d _ _ .nils => appOK P Z t 0 y.llen (hd (fun e sz => (0 < y.llen → (y.lget 0).sz = sz) ∧ addL y pr2 re2 true [] (hd (fun pr re => K (st.left dst (.own st.nx 0) (some (.arr 0 pr re (.list y.llen y.lget) e sz)))) .mk)) .mk)
    | .own id ver => (match o id with
      | some (.arr v pr re z e sz) => v = ver ∧ appOK P Z t z.llen y.llen (hd (fun e' sz' => e' = e ∧ sz' = sz ∧ (0 < y.llen → (y.lget 0).sz = sz) ∧
          addL y pr2 re2 pr re (hd (fun pr' re' => K ((st.setOb id (.arr (v + 1) pr' re' (z.app y) e sz)).put dst (.own id (v + 1)))) .mk)) .mk)
      | _ => False)
    | _ => False
theorem a_append (dst : Option Nat) (t : Nat) (s x : Operand) : evAppend P Z dst t s x st K = lstOf (getO st.obs) (st.opd x) (hd (fun pr2 re2 y => evApp1 P Z dst t (st.opd s) st pr2 re2 y (getO st.obs) K) .mk) := rfl
theorem t_bx (x : SV) (t i : Nat) (p0 : Bool) (r0 : List Nat) (y : D) (t' : Nat) (K : Ob → Prop) : stOb x P t (.var p0 r0 y t') (.bx i) K = asD x (hd (fun p r z => szOf P t = some z.sz ∧ z.sz = y.sz ∧ addR z p r true [] (hd (fun pr' re' => K (.var pr' re' z t')) .mk)) .mk) := rfl
theorem t_bf (x : SV) (t i off : Nat) (p0 : Bool) (r0 : List Nat) (y : D) (t' : Nat) (K : Ob → Prop) : stOb x P t (.var p0 r0 y t') (.bf i off) K = asD x (hd (fun p r z => szOf P t = some z.sz ∧ (y.at_ off).sz = z.sz ∧ 0 < z.sz ∧ addR z p r p0 r0 (hd (fun pr' re' => K (.var pr' re' (y.setAt off z) t')) .mk)) .mk) := rfl
theorem t_oa (x : SV) (t j ver i v : Nat) (p0 : Bool) (r0 : List Nat) (y : D) (e sz : Nat) (K : Ob → Prop) : stOb x P t (.arr v p0 r0 y e sz) (.oa j ver i) K = asD x (hd (fun p r z => v = ver ∧ szOf P t = some z.sz ∧ z.sz = sz ∧ addR z p r p0 r0 (hd (fun pr' re' => K (.arr v pr' re' (y.setL i z) e sz)) .mk)) .mk) := rfl
theorem l_str (t : Nat) (pr : Bool) (re : List Nat) (s : ByteArray) (lo hi : Option SV) : evSlice P t (.d pr re (.str s)) lo hi Kr = (stOf P t = true ∧ vBound hi s.size (hd (fun h => vBound lo 0 (hd (fun l => 0 ≤ l ∧ l ≤ h ∧ h ≤ s.size ∧ Kr (.d pr re (.str (s.extract l.toNat h.toNat)))) .mk)) .mk)) := rfl
theorem l_lst (t : Nat) (pr : Bool) (re : List Nat) (n : Nat) (f : Nat → D) (lo hi : Option SV) : evSlice P t (.d pr re (.list n f)) lo hi Kr = (vBound hi n (hd (fun h => vBound lo 0 (hd (fun l => 0 ≤ l ∧ l ≤ h ∧ h ≤ n ∧
      (l < h → elOK P t (f l.toNat)) ∧ (∃ e sz, slOf P t = some e ∧ szOf P e = some sz) ∧ Kr (.d pr re ((D.list n f).cut l.toNat h.toNat))) .mk)) .mk)) := by
  simp only [evSlice, hd, D.isL, D.llen, D.lget, true_and]
end

/-! ### What is simplified, and what is held -/
@[congr] theorem vInt.cg {x0 y0 K} (h0 : x0 = y0) : vInt x0 K = vInt y0 K := by subst h0; rfl
@[congr] theorem vBool.cg {x0 y0 K} (h0 : x0 = y0) : vBool x0 K = vBool y0 K := by subst h0; rfl
@[congr] theorem evBin.cg {x0 x1 x2 x3 x4 y3 y4 K} (h3 : x3 = y3) (h4 : x4 = y4) : evBin x0 x1 x2 x3 x4 K = evBin x0 x1 x2 y3 y4 K := by subst h3 h4; rfl
@[congr] theorem evUn.cg {x0 x1 y1 K} (h1 : x1 = y1) : evUn x0 x1 K = evUn x0 y1 K := by subst h1; rfl
@[congr] theorem evLen.cg {x0 x1 x2 x3 y2 K} (h2 : x2 = y2) : evLen x0 x1 x2 x3 K = evLen x0 x1 y2 x3 K := by subst h2; rfl
@[congr] theorem evIdx.cg {x0 x1 x2 x3 x4 y2 y4 K} (h2 : x2 = y2) (h4 : x4 = y4) : evIdx x0 x1 x2 x3 x4 K = evIdx x0 x1 y2 x3 y4 K := by subst h2 h4; rfl
@[congr] theorem evLoad.cg {x0 x1 x2 x3 y2 K} (h2 : x2 = y2) : evLoad x0 x1 x2 x3 K = evLoad x0 x1 y2 x3 K := by subst h2; rfl
@[congr] theorem evFieldAddr.cg {x0 x1 x2 x3 x4 y3 K} (h3 : x3 = y3) : evFieldAddr x0 x1 x2 x3 x4 K = evFieldAddr x0 x1 x2 y3 x4 K := by subst h3; rfl
@[congr] theorem evField.cg {x0 x1 x2 x3 y3 K} (h3 : x3 = y3) : evField x0 x1 x2 x3 K = evField x0 x1 x2 y3 K := by subst h3; rfl
@[congr] theorem evExtract.cg {x0 x1 y1 K} (h1 : x1 = y1) : evExtract x0 x1 K = evExtract x0 y1 K := by subst h1; rfl
@[congr] theorem evSlice.cg {x0 x1 x2 x3 x4 y2 y3 y4 K} (h2 : x2 = y2) (h3 : x3 = y3) (h4 : x4 = y4) : evSlice x0 x1 x2 x3 x4 K = evSlice x0 x1 y2 y3 y4 K := by subst h2 h3 h4; rfl
@[congr] theorem evConv.cg {x0 x1 x2 x3 y3 K} (h3 : x3 = y3) : evConv x0 x1 x2 x3 K = evConv x0 x1 x2 y3 K := by subst h3; rfl
@[congr] theorem asD.cg {x0 y0 K} (h0 : x0 = y0) : asD x0 K = asD y0 K := by subst h0; rfl
@[congr] theorem addR.cg {x0 x1 x2 x3 x4 y0 y1 y2 y3 y4 K} (h0 : x0 = y0) (h1 : x1 = y1) (h2 : x2 = y2) (h3 : x3 = y3) (h4 : x4 = y4) : addR x0 x1 x2 x3 x4 K = addR y0 y1 y2 y3 y4 K := by subst h0 h1 h2 h3 h4; rfl
@[congr] theorem evFill.cg {x0 x1 x2 x3 x4 y1 y2 y3 y4 K} (h1 : x1 = y1) (h2 : x2 = y2) (h3 : x3 = y3) (h4 : x4 = y4) : evFill x0 x1 x2 x3 x4 K = evFill x0 y1 y2 y3 y4 K := by subst h1 h2 h3 h4; rfl
@[congr] theorem evBuild.cg {x0 x1 x2 x3 y3 K} (h3 : x3 = y3) : evBuild x0 x1 x2 x3 K = evBuild x0 x1 x2 y3 K := by subst h3; rfl
@[congr] theorem evBuildSlice.cg {x0 x1 x2 x3 x4 y4 K} (h4 : x4 = y4) : evBuildSlice x0 x1 x2 x3 x4 K = evBuildSlice x0 x1 x2 x3 y4 K := by subst h4; rfl
@[congr] theorem evElems.cg {x0 x1 x2 x3 x4 x5 y2 y3 y4 y5 K} (h2 : x2 = y2) (h3 : x3 = y3) (h4 : x4 = y4) (h5 : x5 = y5) : evElems x0 x1 x2 x3 x4 x5 K = evElems x0 x1 y2 y3 y4 y5 K := by subst h2 h3 h4 h5; rfl
@[congr] theorem evBox.cg {x0 x1 x2 y2 K} (h2 : x2 = y2) : evBox x0 x1 x2 K = evBox x0 x1 y2 K := by subst h2; rfl
@[congr] theorem evAlloc.cg {x0 x1 x2  K}  : evAlloc x0 x1 x2 K = evAlloc x0 x1 x2 K := by rfl
@[congr] theorem evMake.cg {x0 x1 x2 x3 x4 x5 y4 y5 K} (h4 : x4 = y4) (h5 : x5 = y5) : evMake x0 x1 x2 x3 x4 x5 K = evMake x0 x1 x2 x3 y4 y5 K := by subst h4 h5; rfl
@[congr] theorem evCall.cg {x0 x1 x2 x3 x4 x5 y4 y5 K} (h4 : x4 = y4) (h5 : x5 = y5) : evCall x0 x1 x2 x3 x4 x5 K = evCall x0 x1 x2 x3 y4 y5 K := by subst h4 h5; rfl
@[congr] theorem resSV.cg {x0 x1 x2 x3 x4 y1 y2 y4 K} (h1 : x1 = y1) (h2 : x2 = y2) (h4 : x4 = y4) : resSV x0 x1 x2 x3 x4 K = resSV x0 y1 y2 x3 y4 K := by subst h1 h2 h4; rfl
@[congr] theorem vBound.cg {x0 x1 y0 y1 K} (h0 : x0 = y0) (h1 : x1 = y1) : vBound x0 x1 K = vBound y0 y1 K := by subst h0 h1; rfl
@[congr] theorem fdOK.cg {x0 x1 x2  K}  : fdOK x0 x1 x2 K = fdOK x0 x1 x2 K := by rfl
@[congr] theorem stOb.cg {x0 x1 x2 x3 x4 y0 y3 y4 K} (h0 : x0 = y0) (h3 : x3 = y3) (h4 : x4 = y4) : stOb x0 x1 x2 x3 x4 K = stOb y0 x1 x2 y3 y4 K := by subst h0 h3 h4; rfl
@[congr] theorem addL.cg {x0 x1 x2 x3 x4 y0 y1 y2 y3 y4 K} (h0 : x0 = y0) (h1 : x1 = y1) (h2 : x2 = y2) (h3 : x3 = y3) (h4 : x4 = y4) : addL x0 x1 x2 x3 x4 K = addL y0 y1 y2 y3 y4 K := by subst h0 h1 h2 h3 h4; rfl
@[congr] theorem lstOf.cg {x0 x1 y1 K} (h1 : x1 = y1) : lstOf x0 x1 K = lstOf x0 y1 K := by subst h1; rfl
@[congr] theorem appOK.cg {x0 x1 x2 x3 x4 y3 y4 K} (h3 : x3 = y3) (h4 : x4 = y4) : appOK x0 x1 x2 x3 x4 K = appOK x0 x1 x2 y3 y4 K := by subst h3 h4; rfl
@[congr] theorem binD.cg {x0 x1 x2 x3 x4 y3 y4 K} (h3 : x3 = y3) (h4 : x4 = y4) : binD x0 x1 x2 x3 x4 K = binD x0 x1 x2 y3 y4 K := by subst h3 h4; rfl
@[congr] theorem binI.cg {x0 x1 x2 x3 y2 y3 K} (h2 : x2 = y2) (h3 : x3 = y3) : binI x0 x1 x2 x3 K = binI x0 x1 y2 y3 K := by subst h2 h3; rfl
@[congr] theorem binS.cg {x0 x1 x2 y1 y2 K} (h1 : x1 = y1) (h2 : x2 = y2) : binS x0 x1 x2 K = binS x0 y1 y2 K := by subst h1 h2; rfl
@[congr] theorem onBool.cg {x0 y0 K} (h0 : x0 = y0) : onBool x0 K = onBool y0 K := by subst h0; rfl
@[congr] theorem evC.cg {x0 x1 x2 x3 x4 x5  K}  : evC x0 x1 x2 x3 x4 x5 K = evC x0 x1 x2 x3 x4 x5 K := by rfl
@[congr] theorem evOps.cg {x0 x1 x2 x3 x4 x5 x6  K}  : evOps x0 x1 x2 x3 x4 x5 x6 K = evOps x0 x1 x2 x3 x4 x5 x6 K := by rfl
@[congr] theorem evStep.cg {x0 x1 x2 x3 x4 x5  K}  : evStep x0 x1 x2 x3 x4 x5 K = evStep x0 x1 x2 x3 x4 x5 K := by rfl
@[congr] theorem evP.cg {x0 x1 x2 x3 x4 x5 x6  K}  : evP x0 x1 x2 x3 x4 x5 x6 K = evP x0 x1 x2 x3 x4 x5 x6 K := by rfl
@[congr] theorem evRes.cg {x0 x1 x2 x3 x4  K}  : evRes x0 x1 x2 x3 x4 K = evRes x0 x1 x2 x3 x4 K := by rfl
@[congr] theorem evAppend.cg {x0 x1 x2 x3 x4 x5 x6  K}  : evAppend x0 x1 x2 x3 x4 x5 x6 K = evAppend x0 x1 x2 x3 x4 x5 x6 K := by rfl
@[congr] theorem evStore.cg {x0 x1 x2 x3 x4  K}  : evStore x0 x1 x2 x3 x4 K = evStore x0 x1 x2 x3 x4 K := by rfl
@[congr] theorem LoopVC.cg {x0 x1  K}  : LoopVC x0 x1 K = LoopVC x0 x1 K := by rfl
@[congr] theorem DrawVC.cg {x0 x1 x2 x3 x4 x5  K}  : DrawVC x0 x1 x2 x3 x4 x5 K = DrawVC x0 x1 x2 x3 x4 x5 K := by rfl
@[congr] theorem thenSt.cg {s s' : St} {K : St → Prop} (h : s = s') : thenSt s K = thenSt s' K := by rw [h]
@[congr] theorem evSt2.cg {o o' : Option Ob} {P t s1} {x x' p p' : SV} {K} (h1 : o = o') (h2 : x = x') (h3 : p = p') : evSt2 o P t s1 x p K = evSt2 o' P t s1 x' p' K := by rw [h1, h2, h3]
@[congr] theorem evRes2.cg {P t} {s s' : SV} {obs K} (h : s = s') : evRes2 P t s obs K = evRes2 P t s' obs K := by rw [h]
@[congr] theorem evApp1.cg {P Z d t} {s s' : SV} {st p r} {y y' : D} {o K} (h : s = s') (h2 : y = y') : evApp1 P Z d t s st p r y o K = evApp1 P Z d t s' st p r y' o K := by rw [h, h2]
@[congr] theorem evNil.cg {s s' : SV} {o K} (h : s = s') : evNil s o K = evNil s' o K := by rw [h]
@[congr] theorem evIndex.cg {P t} {s s' : SV} {n n' : Int} {K} (h : s = s') (h2 : n = n') : evIndex P t s n K = evIndex P t s' n' K := by rw [h, h2]

/-! ### Lists as data -/
abbrev lst {α : Type} [Inhabited α] (enc : α → D) (xs : List α) : D := .list xs.length fun i => enc (xs.getD i default)
abbrev encI (n : Int) : D := .int .i64 n
abbrev encS (s : ByteArray) : D := .str s

/-- 'gives_of', the frame's size and results named. -/
theorem gives_by {P : Program} {Z : Nat → Option D} {J : World → Prop} (hZ : ZOK P Z) (hJ : Stab J) {f N : Nat} {fn : Func} {c : Code} {args y : D} {fl : Fl} {rs : List ResultVar} (hf : P.funcs[f]? = some fn) (hb : fn.body = some c) (hn : (fn.name == "runtime.NumGoroutine") = false)
    (hN : fn.ntmps = N) (hr : fn.results.toList = rs) (hsz : args.nfld ≤ N) (h : evC P Z J N c (entrySt args) (retK P rs fl y)) : Gives P J f fl args y := by
  subst hN; subst hr; exact gives_of hZ hJ hf hb hn hsz h
end Go.Proofs.Ytomhkcemkapmpaa
