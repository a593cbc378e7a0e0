/- Facts on the program's types. For every world: no condition. -/
import Derived.Test.YtomhkcemkapmpaaDw
import Derived.Test.YtomhkcemkapmpaaProg
namespace Go.Proofs.Ytomhkcemkapmpaa
open Go Go.RowKit
set_option linter.unusedVariables false
set_option linter.unusedSimpArgs false

def zLook : List (Nat × D) → Nat → Option D
  | [], _ => none
  | (n, d) :: r, t => if n = t then some d else zLook r t
def zAll (P : Program) : List (Nat × D) → Prop
  | [] => True
  | (t, d) :: r => (szOf P t = some (D.sz d) ∧ ∃ v, (P.info? t).bind (·.zero) = some v ∧ ∀ w, RepV w d v []) ∧ zAll P r
theorem zLook_ok {P : Program} : ∀ l : List (Nat × D), zAll P l → ∀ t d, zLook l t = some d → szOf P t = some (D.sz d) ∧ ∃ v, (P.info? t).bind (·.zero) = some v ∧ ∀ w, RepV w d v []
  | [], _, _, _, h => by cases h
  | (n, x) :: r, h, t, d, e => by
    unfold zLook at e
    split at e
    · rename_i q; subst q; injection e with e; subst e; exact h.1
    · exact zLook_ok r h.2 t d e

@[go_sem] theorem sz2 : szOf Try.prog 2 = some 1 := by kernel_rfl
@[go_sem] theorem by2 : byOf Try.prog 2 = some 8 := by kernel_rfl
@[go_sem] theorem ag2 : aggOf Try.prog 2 = some false := by kernel_rfl
@[go_sem] theorem us2 : (Try.prog.underlying 2).isSome = true := by kernel_rfl
@[go_sem] theorem in2 : inOf Try.prog 2 = some .i64 := by kernel_rfl
@[go_sem] theorem zn2 : ((Try.prog.info? 2).bind (·.zero) = none) = False := by
  have : ((Try.prog.info? 2).bind (·.zero)).isSome = true := by kernel_rfl
  simp only [eq_iff_iff, iff_false]; intro h; rw [h] at this; cases this
@[go_sem] theorem sz3 : szOf Try.prog 3 = some 1 := by kernel_rfl
@[go_sem] theorem by3 : byOf Try.prog 3 = some 8 := by kernel_rfl
@[go_sem] theorem ag3 : aggOf Try.prog 3 = some false := by kernel_rfl
@[go_sem] theorem us3 : (Try.prog.underlying 3).isSome = true := by kernel_rfl
@[go_sem] theorem in3 : inOf Try.prog 3 = some .i64 := by kernel_rfl
@[go_sem] theorem zn3 : ((Try.prog.info? 3).bind (·.zero) = none) = False := by
  have : ((Try.prog.info? 3).bind (·.zero)).isSome = true := by kernel_rfl
  simp only [eq_iff_iff, iff_false]; intro h; rw [h] at this; cases this
@[go_sem] theorem sz4 : szOf Try.prog 4 = some 1 := by kernel_rfl
@[go_sem] theorem by4 : byOf Try.prog 4 = some 1 := by kernel_rfl
@[go_sem] theorem ag4 : aggOf Try.prog 4 = some false := by kernel_rfl
@[go_sem] theorem us4 : (Try.prog.underlying 4).isSome = true := by kernel_rfl
@[go_sem] theorem ub4 : (Try.prog.underlying 4 = some .bool) = True := by simp only [eq_iff_iff, iff_true]; kernel_rfl
@[go_sem] theorem zn4 : ((Try.prog.info? 4).bind (·.zero) = none) = False := by
  have : ((Try.prog.info? 4).bind (·.zero)).isSome = true := by kernel_rfl
  simp only [eq_iff_iff, iff_false]; intro h; rw [h] at this; cases this
@[go_sem] theorem sz5 : szOf Try.prog 5 = some 1 := by kernel_rfl
@[go_sem] theorem by5 : byOf Try.prog 5 = some 1 := by kernel_rfl
@[go_sem] theorem ag5 : aggOf Try.prog 5 = some false := by kernel_rfl
@[go_sem] theorem us5 : (Try.prog.underlying 5).isSome = true := by kernel_rfl
@[go_sem] theorem in5 : inOf Try.prog 5 = some .u8 := by kernel_rfl
@[go_sem] theorem zn5 : ((Try.prog.info? 5).bind (·.zero) = none) = False := by
  have : ((Try.prog.info? 5).bind (·.zero)).isSome = true := by kernel_rfl
  simp only [eq_iff_iff, iff_false]; intro h; rw [h] at this; cases this
@[go_sem] theorem sz9 : szOf Try.prog 9 = some 1 := by kernel_rfl
@[go_sem] theorem by9 : byOf Try.prog 9 = some 16 := by kernel_rfl
@[go_sem] theorem ag9 : aggOf Try.prog 9 = some false := by kernel_rfl
@[go_sem] theorem us9 : (Try.prog.underlying 9).isSome = true := by kernel_rfl
@[go_sem] theorem st9 : stOf Try.prog 9 = true := by kernel_rfl
@[go_sem] theorem zn9 : ((Try.prog.info? 9).bind (·.zero) = none) = False := by
  have : ((Try.prog.info? 9).bind (·.zero)).isSome = true := by kernel_rfl
  simp only [eq_iff_iff, iff_false]; intro h; rw [h] at this; cases this
@[go_sem] theorem sz12 : szOf Try.prog 12 = some 1 := by kernel_rfl
@[go_sem] theorem by12 : byOf Try.prog 12 = some 8 := by kernel_rfl
@[go_sem] theorem ag12 : aggOf Try.prog 12 = some false := by kernel_rfl
@[go_sem] theorem us12 : (Try.prog.underlying 12).isSome = true := by kernel_rfl
@[go_sem] theorem in12 : inOf Try.prog 12 = some .u64 := by kernel_rfl
@[go_sem] theorem zn12 : ((Try.prog.info? 12).bind (·.zero) = none) = False := by
  have : ((Try.prog.info? 12).bind (·.zero)).isSome = true := by kernel_rfl
  simp only [eq_iff_iff, iff_false]; intro h; rw [h] at this; cases this
@[go_sem] theorem sz13 : szOf Try.prog 13 = some 2 := by kernel_rfl
@[go_sem] theorem by13 : byOf Try.prog 13 = some 24 := by kernel_rfl
@[go_sem] theorem ag13 : aggOf Try.prog 13 = some true := by kernel_rfl
@[go_sem] theorem us13 : (Try.prog.underlying 13).isSome = true := by kernel_rfl
@[go_sem] theorem fd13_0 : fdOf Try.prog 13 0 = some (0, 9) := by kernel_rfl
@[go_sem] theorem fd13_1 : fdOf Try.prog 13 1 = some (1, 12) := by kernel_rfl
@[go_sem] theorem pl13 : plOf Try.prog 13 = some [(0, 1), (1, 1)] := by kernel_rfl
@[go_sem] theorem zn13 : ((Try.prog.info? 13).bind (·.zero) = none) = False := by
  have : ((Try.prog.info? 13).bind (·.zero)).isSome = true := by kernel_rfl
  simp only [eq_iff_iff, iff_false]; intro h; rw [h] at this; cases this
@[go_sem] theorem sz19 : szOf Try.prog 19 = some 1 := by kernel_rfl
@[go_sem] theorem by19 : byOf Try.prog 19 = some 8 := by kernel_rfl
@[go_sem] theorem ag19 : aggOf Try.prog 19 = some true := by kernel_rfl
@[go_sem] theorem us19 : (Try.prog.underlying 19).isSome = true := by kernel_rfl
@[go_sem] theorem fd19_0 : fdOf Try.prog 19 0 = some (0, 17) := by kernel_rfl
@[go_sem] theorem pl19 : plOf Try.prog 19 = some [(0, 1)] := by kernel_rfl
@[go_sem] theorem zn19 : ((Try.prog.info? 19).bind (·.zero) = none) = False := by
  have : ((Try.prog.info? 19).bind (·.zero)).isSome = true := by kernel_rfl
  simp only [eq_iff_iff, iff_false]; intro h; rw [h] at this; cases this
@[go_sem] theorem sz20 : szOf Try.prog 20 = some 1 := by kernel_rfl
@[go_sem] theorem by20 : byOf Try.prog 20 = some 16 := by kernel_rfl
@[go_sem] theorem ag20 : aggOf Try.prog 20 = some false := by kernel_rfl
@[go_sem] theorem us20 : (Try.prog.underlying 20).isSome = true := by kernel_rfl
@[go_sem] theorem zn20 : ((Try.prog.info? 20).bind (·.zero) = none) = False := by
  have : ((Try.prog.info? 20).bind (·.zero)).isSome = true := by kernel_rfl
  simp only [eq_iff_iff, iff_false]; intro h; rw [h] at this; cases this
@[go_sem] theorem sz21 : szOf Try.prog 21 = some 1 := by kernel_rfl
@[go_sem] theorem by21 : byOf Try.prog 21 = some 4 := by kernel_rfl
@[go_sem] theorem ag21 : aggOf Try.prog 21 = some false := by kernel_rfl
@[go_sem] theorem us21 : (Try.prog.underlying 21).isSome = true := by kernel_rfl
@[go_sem] theorem in21 : inOf Try.prog 21 = some .i32 := by kernel_rfl
@[go_sem] theorem zn21 : ((Try.prog.info? 21).bind (·.zero) = none) = False := by
  have : ((Try.prog.info? 21).bind (·.zero)).isSome = true := by kernel_rfl
  simp only [eq_iff_iff, iff_false]; intro h; rw [h] at this; cases this
@[go_sem] theorem sz22 : szOf Try.prog 22 = some 1 := by kernel_rfl
@[go_sem] theorem by22 : byOf Try.prog 22 = some 24 := by kernel_rfl
@[go_sem] theorem ag22 : aggOf Try.prog 22 = some false := by kernel_rfl
@[go_sem] theorem us22 : (Try.prog.underlying 22).isSome = true := by kernel_rfl
@[go_sem] theorem sl22 : slOf Try.prog 22 = some 2 := by kernel_rfl
@[go_sem] theorem zn22 : ((Try.prog.info? 22).bind (·.zero) = none) = False := by
  have : ((Try.prog.info? 22).bind (·.zero)).isSome = true := by kernel_rfl
  simp only [eq_iff_iff, iff_false]; intro h; rw [h] at this; cases this
@[go_sem] theorem sz23 : szOf Try.prog 23 = some 3 := by kernel_rfl
@[go_sem] theorem by23 : byOf Try.prog 23 = some 40 := by kernel_rfl
@[go_sem] theorem ag23 : aggOf Try.prog 23 = some true := by kernel_rfl
@[go_sem] theorem us23 : (Try.prog.underlying 23).isSome = true := by kernel_rfl
@[go_sem] theorem fd23_0 : fdOf Try.prog 23 0 = some (0, 2) := by kernel_rfl
@[go_sem] theorem fd23_1 : fdOf Try.prog 23 1 = some (1, 2) := by kernel_rfl
@[go_sem] theorem fd23_2 : fdOf Try.prog 23 2 = some (2, 22) := by kernel_rfl
@[go_sem] theorem pl23 : plOf Try.prog 23 = some [(0, 1), (1, 1), (2, 1)] := by kernel_rfl
@[go_sem] theorem zn23 : ((Try.prog.info? 23).bind (·.zero) = none) = False := by
  have : ((Try.prog.info? 23).bind (·.zero)).isSome = true := by kernel_rfl
  simp only [eq_iff_iff, iff_false]; intro h; rw [h] at this; cases this
@[go_sem] theorem sz24 : szOf Try.prog 24 = some 3 := by kernel_rfl
@[go_sem] theorem by24 : byOf Try.prog 24 = some 40 := by kernel_rfl
@[go_sem] theorem ag24 : aggOf Try.prog 24 = some true := by kernel_rfl
@[go_sem] theorem us24 : (Try.prog.underlying 24).isSome = true := by kernel_rfl
@[go_sem] theorem fd24_0 : fdOf Try.prog 24 0 = some (0, 2) := by kernel_rfl
@[go_sem] theorem fd24_1 : fdOf Try.prog 24 1 = some (1, 2) := by kernel_rfl
@[go_sem] theorem fd24_2 : fdOf Try.prog 24 2 = some (2, 22) := by kernel_rfl
@[go_sem] theorem pl24 : plOf Try.prog 24 = some [(0, 1), (1, 1), (2, 1)] := by kernel_rfl
@[go_sem] theorem zn24 : ((Try.prog.info? 24).bind (·.zero) = none) = False := by
  have : ((Try.prog.info? 24).bind (·.zero)).isSome = true := by kernel_rfl
  simp only [eq_iff_iff, iff_false]; intro h; rw [h] at this; cases this
@[go_sem] theorem sz27 : szOf Try.prog 27 = some 3 := by kernel_rfl
@[go_sem] theorem by27 : byOf Try.prog 27 = some 40 := by kernel_rfl
@[go_sem] theorem ag27 : aggOf Try.prog 27 = some true := by kernel_rfl
@[go_sem] theorem us27 : (Try.prog.underlying 27).isSome = true := by kernel_rfl
@[go_sem] theorem fd27_0 : fdOf Try.prog 27 0 = some (0, 2) := by kernel_rfl
@[go_sem] theorem fd27_1 : fdOf Try.prog 27 1 = some (1, 2) := by kernel_rfl
@[go_sem] theorem fd27_2 : fdOf Try.prog 27 2 = some (2, 22) := by kernel_rfl
@[go_sem] theorem pl27 : plOf Try.prog 27 = some [(0, 1), (1, 1), (2, 1)] := by kernel_rfl
@[go_sem] theorem zn27 : ((Try.prog.info? 27).bind (·.zero) = none) = False := by
  have : ((Try.prog.info? 27).bind (·.zero)).isSome = true := by kernel_rfl
  simp only [eq_iff_iff, iff_false]; intro h; rw [h] at this; cases this
@[go_sem] theorem sz31 : szOf Try.prog 31 = some 1 := by kernel_rfl
@[go_sem] theorem by31 : byOf Try.prog 31 = some 24 := by kernel_rfl
@[go_sem] theorem ag31 : aggOf Try.prog 31 = some false := by kernel_rfl
@[go_sem] theorem us31 : (Try.prog.underlying 31).isSome = true := by kernel_rfl
@[go_sem] theorem sl31 : slOf Try.prog 31 = some 52 := by kernel_rfl
@[go_sem] theorem zn31 : ((Try.prog.info? 31).bind (·.zero) = none) = False := by
  have : ((Try.prog.info? 31).bind (·.zero)).isSome = true := by kernel_rfl
  simp only [eq_iff_iff, iff_false]; intro h; rw [h] at this; cases this
@[go_sem] theorem sz36 : szOf Try.prog 36 = some 1 := by kernel_rfl
@[go_sem] theorem by36 : byOf Try.prog 36 = some 24 := by kernel_rfl
@[go_sem] theorem ag36 : aggOf Try.prog 36 = some false := by kernel_rfl
@[go_sem] theorem us36 : (Try.prog.underlying 36).isSome = true := by kernel_rfl
@[go_sem] theorem sl36 : slOf Try.prog 36 = some 59 := by kernel_rfl
@[go_sem] theorem zn36 : ((Try.prog.info? 36).bind (·.zero) = none) = False := by
  have : ((Try.prog.info? 36).bind (·.zero)).isSome = true := by kernel_rfl
  simp only [eq_iff_iff, iff_false]; intro h; rw [h] at this; cases this
@[go_sem] theorem sz40 : szOf Try.prog 40 = some 1 := by kernel_rfl
@[go_sem] theorem by40 : byOf Try.prog 40 = some 24 := by kernel_rfl
@[go_sem] theorem ag40 : aggOf Try.prog 40 = some false := by kernel_rfl
@[go_sem] theorem us40 : (Try.prog.underlying 40).isSome = true := by kernel_rfl
@[go_sem] theorem sl40 : slOf Try.prog 40 = some 68 := by kernel_rfl
@[go_sem] theorem zn40 : ((Try.prog.info? 40).bind (·.zero) = none) = False := by
  have : ((Try.prog.info? 40).bind (·.zero)).isSome = true := by kernel_rfl
  simp only [eq_iff_iff, iff_false]; intro h; rw [h] at this; cases this
@[go_sem] theorem sz52 : szOf Try.prog 52 = some 1 := by kernel_rfl
@[go_sem] theorem by52 : byOf Try.prog 52 = some 24 := by kernel_rfl
@[go_sem] theorem ag52 : aggOf Try.prog 52 = some false := by kernel_rfl
@[go_sem] theorem us52 : (Try.prog.underlying 52).isSome = true := by kernel_rfl
@[go_sem] theorem sl52 : slOf Try.prog 52 = some 9 := by kernel_rfl
@[go_sem] theorem zn52 : ((Try.prog.info? 52).bind (·.zero) = none) = False := by
  have : ((Try.prog.info? 52).bind (·.zero)).isSome = true := by kernel_rfl
  simp only [eq_iff_iff, iff_false]; intro h; rw [h] at this; cases this
@[go_sem] theorem sz58 : szOf Try.prog 58 = some 3 := by kernel_rfl
@[go_sem] theorem by58 : byOf Try.prog 58 = some 40 := by kernel_rfl
@[go_sem] theorem ag58 : aggOf Try.prog 58 = some true := by kernel_rfl
@[go_sem] theorem us58 : (Try.prog.underlying 58).isSome = true := by kernel_rfl
@[go_sem] theorem fd58_0 : fdOf Try.prog 58 0 = some (0, 2) := by kernel_rfl
@[go_sem] theorem fd58_1 : fdOf Try.prog 58 1 = some (1, 2) := by kernel_rfl
@[go_sem] theorem fd58_2 : fdOf Try.prog 58 2 = some (2, 22) := by kernel_rfl
@[go_sem] theorem pl58 : plOf Try.prog 58 = some [(0, 1), (1, 1), (2, 1)] := by kernel_rfl
@[go_sem] theorem zn58 : ((Try.prog.info? 58).bind (·.zero) = none) = False := by
  have : ((Try.prog.info? 58).bind (·.zero)).isSome = true := by kernel_rfl
  simp only [eq_iff_iff, iff_false]; intro h; rw [h] at this; cases this
@[go_sem] theorem sz59 : szOf Try.prog 59 = some 3 := by kernel_rfl
@[go_sem] theorem by59 : byOf Try.prog 59 = some 40 := by kernel_rfl
@[go_sem] theorem ag59 : aggOf Try.prog 59 = some true := by kernel_rfl
@[go_sem] theorem us59 : (Try.prog.underlying 59).isSome = true := by kernel_rfl
@[go_sem] theorem fd59_0 : fdOf Try.prog 59 0 = some (0, 2) := by kernel_rfl
@[go_sem] theorem fd59_1 : fdOf Try.prog 59 1 = some (1, 2) := by kernel_rfl
@[go_sem] theorem fd59_2 : fdOf Try.prog 59 2 = some (2, 22) := by kernel_rfl
@[go_sem] theorem pl59 : plOf Try.prog 59 = some [(0, 1), (1, 1), (2, 1)] := by kernel_rfl
@[go_sem] theorem zn59 : ((Try.prog.info? 59).bind (·.zero) = none) = False := by
  have : ((Try.prog.info? 59).bind (·.zero)).isSome = true := by kernel_rfl
  simp only [eq_iff_iff, iff_false]; intro h; rw [h] at this; cases this
@[go_sem] theorem sz63 : szOf Try.prog 63 = some 1 := by kernel_rfl
@[go_sem] theorem by63 : byOf Try.prog 63 = some 24 := by kernel_rfl
@[go_sem] theorem ag63 : aggOf Try.prog 63 = some false := by kernel_rfl
@[go_sem] theorem us63 : (Try.prog.underlying 63).isSome = true := by kernel_rfl
@[go_sem] theorem sl63 : slOf Try.prog 63 = some 4 := by kernel_rfl
@[go_sem] theorem zn63 : ((Try.prog.info? 63).bind (·.zero) = none) = False := by
  have : ((Try.prog.info? 63).bind (·.zero)).isSome = true := by kernel_rfl
  simp only [eq_iff_iff, iff_false]; intro h; rw [h] at this; cases this
@[go_sem] theorem sz68 : szOf Try.prog 68 = some 3 := by kernel_rfl
@[go_sem] theorem by68 : byOf Try.prog 68 = some 40 := by kernel_rfl
@[go_sem] theorem ag68 : aggOf Try.prog 68 = some true := by kernel_rfl
@[go_sem] theorem us68 : (Try.prog.underlying 68).isSome = true := by kernel_rfl
@[go_sem] theorem fd68_0 : fdOf Try.prog 68 0 = some (0, 2) := by kernel_rfl
@[go_sem] theorem fd68_1 : fdOf Try.prog 68 1 = some (1, 2) := by kernel_rfl
@[go_sem] theorem fd68_2 : fdOf Try.prog 68 2 = some (2, 22) := by kernel_rfl
@[go_sem] theorem pl68 : plOf Try.prog 68 = some [(0, 1), (1, 1), (2, 1)] := by kernel_rfl
@[go_sem] theorem zn68 : ((Try.prog.info? 68).bind (·.zero) = none) = False := by
  have : ((Try.prog.info? 68).bind (·.zero)).isSome = true := by kernel_rfl
  simp only [eq_iff_iff, iff_false]; intro h; rw [h] at this; cases this
@[go_sem] theorem sz87 : szOf Try.prog 87 = some 1 := by kernel_rfl
@[go_sem] theorem by87 : byOf Try.prog 87 = some 24 := by kernel_rfl
@[go_sem] theorem ag87 : aggOf Try.prog 87 = some false := by kernel_rfl
@[go_sem] theorem us87 : (Try.prog.underlying 87).isSome = true := by kernel_rfl
@[go_sem] theorem sl87 : slOf Try.prog 87 = some 22 := by kernel_rfl
@[go_sem] theorem zn87 : ((Try.prog.info? 87).bind (·.zero) = none) = False := by
  have : ((Try.prog.info? 87).bind (·.zero)).isSome = true := by kernel_rfl
  simp only [eq_iff_iff, iff_false]; intro h; rw [h] at this; cases this
@[go_sem] theorem sz89 : szOf Try.prog 89 = some 3 := by kernel_rfl
@[go_sem] theorem by89 : byOf Try.prog 89 = some 72 := by kernel_rfl
@[go_sem] theorem ag89 : aggOf Try.prog 89 = some true := by kernel_rfl
@[go_sem] theorem us89 : (Try.prog.underlying 89).isSome = true := by kernel_rfl
@[go_sem] theorem fd89_0 : fdOf Try.prog 89 0 = some (0, 40) := by kernel_rfl
@[go_sem] theorem fd89_1 : fdOf Try.prog 89 1 = some (1, 87) := by kernel_rfl
@[go_sem] theorem fd89_2 : fdOf Try.prog 89 2 = some (2, 63) := by kernel_rfl
@[go_sem] theorem pl89 : plOf Try.prog 89 = some [(0, 1), (1, 1), (2, 1)] := by kernel_rfl
@[go_sem] theorem zn89 : ((Try.prog.info? 89).bind (·.zero) = none) = False := by
  have : ((Try.prog.info? 89).bind (·.zero)).isSome = true := by kernel_rfl
  simp only [eq_iff_iff, iff_false]; intro h; rw [h] at this; cases this
@[go_sem] theorem sz90 : szOf Try.prog 90 = some 3 := by kernel_rfl
@[go_sem] theorem by90 : byOf Try.prog 90 = some 72 := by kernel_rfl
@[go_sem] theorem ag90 : aggOf Try.prog 90 = some true := by kernel_rfl
@[go_sem] theorem us90 : (Try.prog.underlying 90).isSome = true := by kernel_rfl
@[go_sem] theorem fd90_0 : fdOf Try.prog 90 0 = some (0, 40) := by kernel_rfl
@[go_sem] theorem fd90_1 : fdOf Try.prog 90 1 = some (1, 87) := by kernel_rfl
@[go_sem] theorem fd90_2 : fdOf Try.prog 90 2 = some (2, 63) := by kernel_rfl
@[go_sem] theorem pl90 : plOf Try.prog 90 = some [(0, 1), (1, 1), (2, 1)] := by kernel_rfl
@[go_sem] theorem zn90 : ((Try.prog.info? 90).bind (·.zero) = none) = False := by
  have : ((Try.prog.info? 90).bind (·.zero)).isSome = true := by kernel_rfl
  simp only [eq_iff_iff, iff_false]; intro h; rw [h] at this; cases this
@[go_sem] theorem sz96 : szOf Try.prog 96 = some 1 := by kernel_rfl
@[go_sem] theorem by96 : byOf Try.prog 96 = some 24 := by kernel_rfl
@[go_sem] theorem ag96 : aggOf Try.prog 96 = some false := by kernel_rfl
@[go_sem] theorem us96 : (Try.prog.underlying 96).isSome = true := by kernel_rfl
@[go_sem] theorem sl96 : slOf Try.prog 96 = some 3 := by kernel_rfl
@[go_sem] theorem zn96 : ((Try.prog.info? 96).bind (·.zero) = none) = False := by
  have : ((Try.prog.info? 96).bind (·.zero)).isSome = true := by kernel_rfl
  simp only [eq_iff_iff, iff_false]; intro h; rw [h] at this; cases this
@[go_sem] theorem sz97 : szOf Try.prog 97 = some 1 := by kernel_rfl
@[go_sem] theorem by97 : byOf Try.prog 97 = some 24 := by kernel_rfl
@[go_sem] theorem ag97 : aggOf Try.prog 97 = some false := by kernel_rfl
@[go_sem] theorem us97 : (Try.prog.underlying 97).isSome = true := by kernel_rfl
@[go_sem] theorem sl97 : slOf Try.prog 97 = some 5 := by kernel_rfl
@[go_sem] theorem zn97 : ((Try.prog.info? 97).bind (·.zero) = none) = False := by
  have : ((Try.prog.info? 97).bind (·.zero)).isSome = true := by kernel_rfl
  simp only [eq_iff_iff, iff_false]; intro h; rw [h] at this; cases this
@[go_sem] theorem sz99 : szOf Try.prog 99 = some 1 := by kernel_rfl
@[go_sem] theorem by99 : byOf Try.prog 99 = some 8 := by kernel_rfl
@[go_sem] theorem ag99 : aggOf Try.prog 99 = some false := by kernel_rfl
@[go_sem] theorem us99 : (Try.prog.underlying 99).isSome = true := by kernel_rfl
@[go_sem] theorem in99 : inOf Try.prog 99 = some .u64 := by kernel_rfl
@[go_sem] theorem zn99 : ((Try.prog.info? 99).bind (·.zero) = none) = False := by
  have : ((Try.prog.info? 99).bind (·.zero)).isSome = true := by kernel_rfl
  simp only [eq_iff_iff, iff_false]; intro h; rw [h] at this; cases this
@[go_sem] theorem sz102 : szOf Try.prog 102 = some 1 := by kernel_rfl
@[go_sem] theorem by102 : byOf Try.prog 102 = some 4 := by kernel_rfl
@[go_sem] theorem ag102 : aggOf Try.prog 102 = some false := by kernel_rfl
@[go_sem] theorem us102 : (Try.prog.underlying 102).isSome = true := by kernel_rfl
@[go_sem] theorem in102 : inOf Try.prog 102 = some .u32 := by kernel_rfl
@[go_sem] theorem zn102 : ((Try.prog.info? 102).bind (·.zero) = none) = False := by
  have : ((Try.prog.info? 102).bind (·.zero)).isSome = true := by kernel_rfl
  simp only [eq_iff_iff, iff_false]; intro h; rw [h] at this; cases this
@[go_sem] theorem sz105 : szOf Try.prog 105 = some 1 := by kernel_rfl
@[go_sem] theorem by105 : byOf Try.prog 105 = some 8 := by kernel_rfl
@[go_sem] theorem ag105 : aggOf Try.prog 105 = some false := by kernel_rfl
@[go_sem] theorem us105 : (Try.prog.underlying 105).isSome = true := by kernel_rfl
@[go_sem] theorem in105 : inOf Try.prog 105 = some .u64 := by kernel_rfl
@[go_sem] theorem zn105 : ((Try.prog.info? 105).bind (·.zero) = none) = False := by
  have : ((Try.prog.info? 105).bind (·.zero)).isSome = true := by kernel_rfl
  simp only [eq_iff_iff, iff_false]; intro h; rw [h] at this; cases this

def zeroD : Nat → Option D := zLook [(2, (.int .i64 0)), (3, (.int .i64 0)), (4, (.bool false)), (5, (.int .u8 0)), (9, (.str ⟨#[]⟩)), (12, (.int .u64 0)), (13, (.acons (.str ⟨#[]⟩) (.acons (.int .u64 0) .anil))), (20, (.err false)), (21, (.int .i32 0)), (22, .nils), (23, (.acons (.int .i64 0) (.acons (.int .i64 0) (.acons .nils .anil)))), (24, (.acons (.int .i64 0) (.acons (.int .i64 0) (.acons .nils .anil)))), (27, (.acons (.int .i64 0) (.acons (.int .i64 0) (.acons .nils .anil)))), (31, .nils), (36, .nils), (40, .nils), (52, .nils), (58, (.acons (.int .i64 0) (.acons (.int .i64 0) (.acons .nils .anil)))), (59, (.acons (.int .i64 0) (.acons (.int .i64 0) (.acons .nils .anil)))), (63, .nils), (68, (.acons (.int .i64 0) (.acons (.int .i64 0) (.acons .nils .anil)))), (87, .nils), (89, (.acons .nils (.acons .nils (.acons .nils .anil)))), (90, (.acons .nils (.acons .nils (.acons .nils .anil)))), (96, .nils), (97, .nils), (99, (.int .u64 0)), (102, (.int .u32 0)), (105, (.int .u64 0))]

@[go_sem] theorem zd2 : zeroD 2 = some (.int .i64 0) := rfl
theorem zo2 : szOf Try.prog 2 = some (D.sz (.int .i64 0)) ∧ ∃ v, (Try.prog.info? 2).bind (·.zero) = some v ∧ ∀ w, RepV w (.int .i64 0) v [] :=
  ⟨by kernel_rfl, .int .i64 0, by kernel_rfl, fun w => (repV_one rfl).2 ⟨rfl, rfl⟩⟩
@[go_sem] theorem zd3 : zeroD 3 = some (.int .i64 0) := rfl
theorem zo3 : szOf Try.prog 3 = some (D.sz (.int .i64 0)) ∧ ∃ v, (Try.prog.info? 3).bind (·.zero) = some v ∧ ∀ w, RepV w (.int .i64 0) v [] :=
  ⟨by kernel_rfl, .int .i64 0, by kernel_rfl, fun w => (repV_one rfl).2 ⟨rfl, rfl⟩⟩
@[go_sem] theorem zd4 : zeroD 4 = some (.bool false) := rfl
theorem zo4 : szOf Try.prog 4 = some (D.sz (.bool false)) ∧ ∃ v, (Try.prog.info? 4).bind (·.zero) = some v ∧ ∀ w, RepV w (.bool false) v [] :=
  ⟨by kernel_rfl, .bool false, by kernel_rfl, fun w => (repV_one rfl).2 ⟨rfl, rfl⟩⟩
@[go_sem] theorem zd5 : zeroD 5 = some (.int .u8 0) := rfl
theorem zo5 : szOf Try.prog 5 = some (D.sz (.int .u8 0)) ∧ ∃ v, (Try.prog.info? 5).bind (·.zero) = some v ∧ ∀ w, RepV w (.int .u8 0) v [] :=
  ⟨by kernel_rfl, .int .u8 0, by kernel_rfl, fun w => (repV_one rfl).2 ⟨rfl, rfl⟩⟩
@[go_sem] theorem zd9 : zeroD 9 = some (.str ⟨#[]⟩) := rfl
theorem zo9 : szOf Try.prog 9 = some (D.sz (.str ⟨#[]⟩)) ∧ ∃ v, (Try.prog.info? 9).bind (·.zero) = some v ∧ ∀ w, RepV w (.str ⟨#[]⟩) v [] :=
  ⟨by kernel_rfl, .string ⟨#[]⟩, by kernel_rfl, fun w => (repV_one rfl).2 ⟨rfl, rfl⟩⟩
@[go_sem] theorem zd12 : zeroD 12 = some (.int .u64 0) := rfl
theorem zo12 : szOf Try.prog 12 = some (D.sz (.int .u64 0)) ∧ ∃ v, (Try.prog.info? 12).bind (·.zero) = some v ∧ ∀ w, RepV w (.int .u64 0) v [] :=
  ⟨by kernel_rfl, .int .u64 0, by kernel_rfl, fun w => (repV_one rfl).2 ⟨rfl, rfl⟩⟩
@[go_sem] theorem zd13 : zeroD 13 = some (.acons (.str ⟨#[]⟩) (.acons (.int .u64 0) .anil)) := rfl
theorem zo13 : szOf Try.prog 13 = some (D.sz (.acons (.str ⟨#[]⟩) (.acons (.int .u64 0) .anil))) ∧ ∃ v, (Try.prog.info? 13).bind (·.zero) = some v ∧ ∀ w, RepV w (.acons (.str ⟨#[]⟩) (.acons (.int .u64 0) .anil)) v [] :=
  ⟨by kernel_rfl, .agg #[.string ⟨#[]⟩, .int .u64 0], by kernel_rfl, fun w => (repV_agg rfl).2 ⟨[.string ⟨#[]⟩, .int .u64 0], rfl, ⟨[.string ⟨#[]⟩], [.int .u64 0], [], [], rfl, rfl, ⟨rfl, rfl⟩, ⟨[.int .u64 0], [], [], [], rfl, rfl, ⟨rfl, rfl⟩, ⟨rfl, rfl⟩⟩⟩⟩⟩
@[go_sem] theorem zd20 : zeroD 20 = some (.err false) := rfl
theorem zo20 : szOf Try.prog 20 = some (D.sz (.err false)) ∧ ∃ v, (Try.prog.info? 20).bind (·.zero) = some v ∧ ∀ w, RepV w (.err false) v [] :=
  ⟨by kernel_rfl, .nilIface, by kernel_rfl, fun w => (repV_one rfl).2 ⟨rfl, by simp⟩⟩
@[go_sem] theorem zd21 : zeroD 21 = some (.int .i32 0) := rfl
theorem zo21 : szOf Try.prog 21 = some (D.sz (.int .i32 0)) ∧ ∃ v, (Try.prog.info? 21).bind (·.zero) = some v ∧ ∀ w, RepV w (.int .i32 0) v [] :=
  ⟨by kernel_rfl, .int .i32 0, by kernel_rfl, fun w => (repV_one rfl).2 ⟨rfl, rfl⟩⟩
@[go_sem] theorem zd22 : zeroD 22 = some .nils := rfl
theorem zo22 : szOf Try.prog 22 = some (D.sz .nils) ∧ ∃ v, (Try.prog.info? 22).bind (·.zero) = some v ∧ ∀ w, RepV w .nils v [] :=
  ⟨by kernel_rfl, .slice none 0 0, by kernel_rfl, fun w => (repV_one rfl).2 ⟨rfl, rfl⟩⟩
@[go_sem] theorem zd23 : zeroD 23 = some (.acons (.int .i64 0) (.acons (.int .i64 0) (.acons .nils .anil))) := rfl
theorem zo23 : szOf Try.prog 23 = some (D.sz (.acons (.int .i64 0) (.acons (.int .i64 0) (.acons .nils .anil)))) ∧ ∃ v, (Try.prog.info? 23).bind (·.zero) = some v ∧ ∀ w, RepV w (.acons (.int .i64 0) (.acons (.int .i64 0) (.acons .nils .anil))) v [] :=
  ⟨by kernel_rfl, .agg #[.int .i64 0, .int .i64 0, .slice none 0 0], by kernel_rfl, fun w => (repV_agg rfl).2 ⟨[.int .i64 0, .int .i64 0, .slice none 0 0], rfl, ⟨[.int .i64 0], [.int .i64 0, .slice none 0 0], [], [], rfl, rfl, ⟨rfl, rfl⟩, ⟨[.int .i64 0], [.slice none 0 0], [], [], rfl, rfl, ⟨rfl, rfl⟩, ⟨[.slice none 0 0], [], [], [], rfl, rfl, ⟨rfl, rfl⟩, ⟨rfl, rfl⟩⟩⟩⟩⟩⟩
@[go_sem] theorem zd24 : zeroD 24 = some (.acons (.int .i64 0) (.acons (.int .i64 0) (.acons .nils .anil))) := rfl
theorem zo24 : szOf Try.prog 24 = some (D.sz (.acons (.int .i64 0) (.acons (.int .i64 0) (.acons .nils .anil)))) ∧ ∃ v, (Try.prog.info? 24).bind (·.zero) = some v ∧ ∀ w, RepV w (.acons (.int .i64 0) (.acons (.int .i64 0) (.acons .nils .anil))) v [] :=
  ⟨by kernel_rfl, .agg #[.int .i64 0, .int .i64 0, .slice none 0 0], by kernel_rfl, fun w => (repV_agg rfl).2 ⟨[.int .i64 0, .int .i64 0, .slice none 0 0], rfl, ⟨[.int .i64 0], [.int .i64 0, .slice none 0 0], [], [], rfl, rfl, ⟨rfl, rfl⟩, ⟨[.int .i64 0], [.slice none 0 0], [], [], rfl, rfl, ⟨rfl, rfl⟩, ⟨[.slice none 0 0], [], [], [], rfl, rfl, ⟨rfl, rfl⟩, ⟨rfl, rfl⟩⟩⟩⟩⟩⟩
@[go_sem] theorem zd27 : zeroD 27 = some (.acons (.int .i64 0) (.acons (.int .i64 0) (.acons .nils .anil))) := rfl
theorem zo27 : szOf Try.prog 27 = some (D.sz (.acons (.int .i64 0) (.acons (.int .i64 0) (.acons .nils .anil)))) ∧ ∃ v, (Try.prog.info? 27).bind (·.zero) = some v ∧ ∀ w, RepV w (.acons (.int .i64 0) (.acons (.int .i64 0) (.acons .nils .anil))) v [] :=
  ⟨by kernel_rfl, .agg #[.int .i64 0, .int .i64 0, .slice none 0 0], by kernel_rfl, fun w => (repV_agg rfl).2 ⟨[.int .i64 0, .int .i64 0, .slice none 0 0], rfl, ⟨[.int .i64 0], [.int .i64 0, .slice none 0 0], [], [], rfl, rfl, ⟨rfl, rfl⟩, ⟨[.int .i64 0], [.slice none 0 0], [], [], rfl, rfl, ⟨rfl, rfl⟩, ⟨[.slice none 0 0], [], [], [], rfl, rfl, ⟨rfl, rfl⟩, ⟨rfl, rfl⟩⟩⟩⟩⟩⟩
@[go_sem] theorem zd31 : zeroD 31 = some .nils := rfl
theorem zo31 : szOf Try.prog 31 = some (D.sz .nils) ∧ ∃ v, (Try.prog.info? 31).bind (·.zero) = some v ∧ ∀ w, RepV w .nils v [] :=
  ⟨by kernel_rfl, .slice none 0 0, by kernel_rfl, fun w => (repV_one rfl).2 ⟨rfl, rfl⟩⟩
@[go_sem] theorem zd36 : zeroD 36 = some .nils := rfl
theorem zo36 : szOf Try.prog 36 = some (D.sz .nils) ∧ ∃ v, (Try.prog.info? 36).bind (·.zero) = some v ∧ ∀ w, RepV w .nils v [] :=
  ⟨by kernel_rfl, .slice none 0 0, by kernel_rfl, fun w => (repV_one rfl).2 ⟨rfl, rfl⟩⟩
@[go_sem] theorem zd40 : zeroD 40 = some .nils := rfl
theorem zo40 : szOf Try.prog 40 = some (D.sz .nils) ∧ ∃ v, (Try.prog.info? 40).bind (·.zero) = some v ∧ ∀ w, RepV w .nils v [] :=
  ⟨by kernel_rfl, .slice none 0 0, by kernel_rfl, fun w => (repV_one rfl).2 ⟨rfl, rfl⟩⟩
@[go_sem] theorem zd52 : zeroD 52 = some .nils := rfl
theorem zo52 : szOf Try.prog 52 = some (D.sz .nils) ∧ ∃ v, (Try.prog.info? 52).bind (·.zero) = some v ∧ ∀ w, RepV w .nils v [] :=
  ⟨by kernel_rfl, .slice none 0 0, by kernel_rfl, fun w => (repV_one rfl).2 ⟨rfl, rfl⟩⟩
@[go_sem] theorem zd58 : zeroD 58 = some (.acons (.int .i64 0) (.acons (.int .i64 0) (.acons .nils .anil))) := rfl
theorem zo58 : szOf Try.prog 58 = some (D.sz (.acons (.int .i64 0) (.acons (.int .i64 0) (.acons .nils .anil)))) ∧ ∃ v, (Try.prog.info? 58).bind (·.zero) = some v ∧ ∀ w, RepV w (.acons (.int .i64 0) (.acons (.int .i64 0) (.acons .nils .anil))) v [] :=
  ⟨by kernel_rfl, .agg #[.int .i64 0, .int .i64 0, .slice none 0 0], by kernel_rfl, fun w => (repV_agg rfl).2 ⟨[.int .i64 0, .int .i64 0, .slice none 0 0], rfl, ⟨[.int .i64 0], [.int .i64 0, .slice none 0 0], [], [], rfl, rfl, ⟨rfl, rfl⟩, ⟨[.int .i64 0], [.slice none 0 0], [], [], rfl, rfl, ⟨rfl, rfl⟩, ⟨[.slice none 0 0], [], [], [], rfl, rfl, ⟨rfl, rfl⟩, ⟨rfl, rfl⟩⟩⟩⟩⟩⟩
@[go_sem] theorem zd59 : zeroD 59 = some (.acons (.int .i64 0) (.acons (.int .i64 0) (.acons .nils .anil))) := rfl
theorem zo59 : szOf Try.prog 59 = some (D.sz (.acons (.int .i64 0) (.acons (.int .i64 0) (.acons .nils .anil)))) ∧ ∃ v, (Try.prog.info? 59).bind (·.zero) = some v ∧ ∀ w, RepV w (.acons (.int .i64 0) (.acons (.int .i64 0) (.acons .nils .anil))) v [] :=
  ⟨by kernel_rfl, .agg #[.int .i64 0, .int .i64 0, .slice none 0 0], by kernel_rfl, fun w => (repV_agg rfl).2 ⟨[.int .i64 0, .int .i64 0, .slice none 0 0], rfl, ⟨[.int .i64 0], [.int .i64 0, .slice none 0 0], [], [], rfl, rfl, ⟨rfl, rfl⟩, ⟨[.int .i64 0], [.slice none 0 0], [], [], rfl, rfl, ⟨rfl, rfl⟩, ⟨[.slice none 0 0], [], [], [], rfl, rfl, ⟨rfl, rfl⟩, ⟨rfl, rfl⟩⟩⟩⟩⟩⟩
@[go_sem] theorem zd63 : zeroD 63 = some .nils := rfl
theorem zo63 : szOf Try.prog 63 = some (D.sz .nils) ∧ ∃ v, (Try.prog.info? 63).bind (·.zero) = some v ∧ ∀ w, RepV w .nils v [] :=
  ⟨by kernel_rfl, .slice none 0 0, by kernel_rfl, fun w => (repV_one rfl).2 ⟨rfl, rfl⟩⟩
@[go_sem] theorem zd68 : zeroD 68 = some (.acons (.int .i64 0) (.acons (.int .i64 0) (.acons .nils .anil))) := rfl
theorem zo68 : szOf Try.prog 68 = some (D.sz (.acons (.int .i64 0) (.acons (.int .i64 0) (.acons .nils .anil)))) ∧ ∃ v, (Try.prog.info? 68).bind (·.zero) = some v ∧ ∀ w, RepV w (.acons (.int .i64 0) (.acons (.int .i64 0) (.acons .nils .anil))) v [] :=
  ⟨by kernel_rfl, .agg #[.int .i64 0, .int .i64 0, .slice none 0 0], by kernel_rfl, fun w => (repV_agg rfl).2 ⟨[.int .i64 0, .int .i64 0, .slice none 0 0], rfl, ⟨[.int .i64 0], [.int .i64 0, .slice none 0 0], [], [], rfl, rfl, ⟨rfl, rfl⟩, ⟨[.int .i64 0], [.slice none 0 0], [], [], rfl, rfl, ⟨rfl, rfl⟩, ⟨[.slice none 0 0], [], [], [], rfl, rfl, ⟨rfl, rfl⟩, ⟨rfl, rfl⟩⟩⟩⟩⟩⟩
@[go_sem] theorem zd87 : zeroD 87 = some .nils := rfl
theorem zo87 : szOf Try.prog 87 = some (D.sz .nils) ∧ ∃ v, (Try.prog.info? 87).bind (·.zero) = some v ∧ ∀ w, RepV w .nils v [] :=
  ⟨by kernel_rfl, .slice none 0 0, by kernel_rfl, fun w => (repV_one rfl).2 ⟨rfl, rfl⟩⟩
@[go_sem] theorem zd89 : zeroD 89 = some (.acons .nils (.acons .nils (.acons .nils .anil))) := rfl
theorem zo89 : szOf Try.prog 89 = some (D.sz (.acons .nils (.acons .nils (.acons .nils .anil)))) ∧ ∃ v, (Try.prog.info? 89).bind (·.zero) = some v ∧ ∀ w, RepV w (.acons .nils (.acons .nils (.acons .nils .anil))) v [] :=
  ⟨by kernel_rfl, .agg #[.slice none 0 0, .slice none 0 0, .slice none 0 0], by kernel_rfl, fun w => (repV_agg rfl).2 ⟨[.slice none 0 0, .slice none 0 0, .slice none 0 0], rfl, ⟨[.slice none 0 0], [.slice none 0 0, .slice none 0 0], [], [], rfl, rfl, ⟨rfl, rfl⟩, ⟨[.slice none 0 0], [.slice none 0 0], [], [], rfl, rfl, ⟨rfl, rfl⟩, ⟨[.slice none 0 0], [], [], [], rfl, rfl, ⟨rfl, rfl⟩, ⟨rfl, rfl⟩⟩⟩⟩⟩⟩
@[go_sem] theorem zd90 : zeroD 90 = some (.acons .nils (.acons .nils (.acons .nils .anil))) := rfl
theorem zo90 : szOf Try.prog 90 = some (D.sz (.acons .nils (.acons .nils (.acons .nils .anil)))) ∧ ∃ v, (Try.prog.info? 90).bind (·.zero) = some v ∧ ∀ w, RepV w (.acons .nils (.acons .nils (.acons .nils .anil))) v [] :=
  ⟨by kernel_rfl, .agg #[.slice none 0 0, .slice none 0 0, .slice none 0 0], by kernel_rfl, fun w => (repV_agg rfl).2 ⟨[.slice none 0 0, .slice none 0 0, .slice none 0 0], rfl, ⟨[.slice none 0 0], [.slice none 0 0, .slice none 0 0], [], [], rfl, rfl, ⟨rfl, rfl⟩, ⟨[.slice none 0 0], [.slice none 0 0], [], [], rfl, rfl, ⟨rfl, rfl⟩, ⟨[.slice none 0 0], [], [], [], rfl, rfl, ⟨rfl, rfl⟩, ⟨rfl, rfl⟩⟩⟩⟩⟩⟩
@[go_sem] theorem zd96 : zeroD 96 = some .nils := rfl
theorem zo96 : szOf Try.prog 96 = some (D.sz .nils) ∧ ∃ v, (Try.prog.info? 96).bind (·.zero) = some v ∧ ∀ w, RepV w .nils v [] :=
  ⟨by kernel_rfl, .slice none 0 0, by kernel_rfl, fun w => (repV_one rfl).2 ⟨rfl, rfl⟩⟩
@[go_sem] theorem zd97 : zeroD 97 = some .nils := rfl
theorem zo97 : szOf Try.prog 97 = some (D.sz .nils) ∧ ∃ v, (Try.prog.info? 97).bind (·.zero) = some v ∧ ∀ w, RepV w .nils v [] :=
  ⟨by kernel_rfl, .slice none 0 0, by kernel_rfl, fun w => (repV_one rfl).2 ⟨rfl, rfl⟩⟩
@[go_sem] theorem zd99 : zeroD 99 = some (.int .u64 0) := rfl
theorem zo99 : szOf Try.prog 99 = some (D.sz (.int .u64 0)) ∧ ∃ v, (Try.prog.info? 99).bind (·.zero) = some v ∧ ∀ w, RepV w (.int .u64 0) v [] :=
  ⟨by kernel_rfl, .int .u64 0, by kernel_rfl, fun w => (repV_one rfl).2 ⟨rfl, rfl⟩⟩
@[go_sem] theorem zd102 : zeroD 102 = some (.int .u32 0) := rfl
theorem zo102 : szOf Try.prog 102 = some (D.sz (.int .u32 0)) ∧ ∃ v, (Try.prog.info? 102).bind (·.zero) = some v ∧ ∀ w, RepV w (.int .u32 0) v [] :=
  ⟨by kernel_rfl, .int .u32 0, by kernel_rfl, fun w => (repV_one rfl).2 ⟨rfl, rfl⟩⟩
@[go_sem] theorem zd105 : zeroD 105 = some (.int .u64 0) := rfl
theorem zo105 : szOf Try.prog 105 = some (D.sz (.int .u64 0)) ∧ ∃ v, (Try.prog.info? 105).bind (·.zero) = some v ∧ ∀ w, RepV w (.int .u64 0) v [] :=
  ⟨by kernel_rfl, .int .u64 0, by kernel_rfl, fun w => (repV_one rfl).2 ⟨rfl, rfl⟩⟩
theorem zeroOK : ZOK Try.prog zeroD := fun t d h => zLook_ok [(2, (.int .i64 0)), (3, (.int .i64 0)), (4, (.bool false)), (5, (.int .u8 0)), (9, (.str ⟨#[]⟩)), (12, (.int .u64 0)), (13, (.acons (.str ⟨#[]⟩) (.acons (.int .u64 0) .anil))), (20, (.err false)), (21, (.int .i32 0)), (22, .nils), (23, (.acons (.int .i64 0) (.acons (.int .i64 0) (.acons .nils .anil)))), (24, (.acons (.int .i64 0) (.acons (.int .i64 0) (.acons .nils .anil)))), (27, (.acons (.int .i64 0) (.acons (.int .i64 0) (.acons .nils .anil)))), (31, .nils), (36, .nils), (40, .nils), (52, .nils), (58, (.acons (.int .i64 0) (.acons (.int .i64 0) (.acons .nils .anil)))), (59, (.acons (.int .i64 0) (.acons (.int .i64 0) (.acons .nils .anil)))), (63, .nils), (68, (.acons (.int .i64 0) (.acons (.int .i64 0) (.acons .nils .anil)))), (87, .nils), (89, (.acons .nils (.acons .nils (.acons .nils .anil)))), (90, (.acons .nils (.acons .nils (.acons .nils .anil)))), (96, .nils), (97, .nils), (99, (.int .u64 0)), (102, (.int .u32 0)), (105, (.int .u64 0))] ⟨zo2, zo3, zo4, zo5, zo9, zo12, zo13, zo20, zo21, zo22, zo23, zo24, zo27, zo31, zo36, zo40, zo52, zo58, zo59, zo63, zo68, zo87, zo89, zo90, zo96, zo97, zo99, zo102, zo105, trivial⟩ t d h
section
variable {J : World → Prop} {ob : Nat → Option Ob} {id : Nat} {s l c : SV}

@[go_sem] theorem lo2 (x : D) : loadOK Try.prog 2 x = (x.isAgg = false) := by
  unfold loadOK; rw [ag2]; cases h : x.isAgg <;> simp
@[go_sem] theorem al2 (K : SV → Option Ob → Prop) : evAlloc zeroD id 2 K = K (.bx id) (some (.var true [] (.int .i64 0) 2)) := propext ⟨fun ⟨z, h1, _, h⟩ => by rw [zd2] at h1; injection h1 with h1; subst h1; exact h, fun h => ⟨_, zd2, by decide, h⟩⟩
@[go_sem] theorem lo3 (x : D) : loadOK Try.prog 3 x = (x.isAgg = false) := by
  unfold loadOK; rw [ag3]; cases h : x.isAgg <;> simp
@[go_sem] theorem al3 (K : SV → Option Ob → Prop) : evAlloc zeroD id 3 K = K (.bx id) (some (.var true [] (.int .i64 0) 3)) := propext ⟨fun ⟨z, h1, _, h⟩ => by rw [zd3] at h1; injection h1 with h1; subst h1; exact h, fun h => ⟨_, zd3, by decide, h⟩⟩
@[go_sem] theorem lo4 (x : D) : loadOK Try.prog 4 x = (x.isAgg = false) := by
  unfold loadOK; rw [ag4]; cases h : x.isAgg <;> simp
@[go_sem] theorem al4 (K : SV → Option Ob → Prop) : evAlloc zeroD id 4 K = K (.bx id) (some (.var true [] (.bool false) 4)) := propext ⟨fun ⟨z, h1, _, h⟩ => by rw [zd4] at h1; injection h1 with h1; subst h1; exact h, fun h => ⟨_, zd4, by decide, h⟩⟩
@[go_sem] theorem lo5 (x : D) : loadOK Try.prog 5 x = (x.isAgg = false) := by
  unfold loadOK; rw [ag5]; cases h : x.isAgg <;> simp
@[go_sem] theorem al5 (K : SV → Option Ob → Prop) : evAlloc zeroD id 5 K = K (.bx id) (some (.var true [] (.int .u8 0) 5)) := propext ⟨fun ⟨z, h1, _, h⟩ => by rw [zd5] at h1; injection h1 with h1; subst h1; exact h, fun h => ⟨_, zd5, by decide, h⟩⟩
@[go_sem] theorem lo9 (x : D) : loadOK Try.prog 9 x = (x.isAgg = false) := by
  unfold loadOK; rw [ag9]; cases h : x.isAgg <;> simp
@[go_sem] theorem al9 (K : SV → Option Ob → Prop) : evAlloc zeroD id 9 K = K (.bx id) (some (.var true [] (.str ⟨#[]⟩) 9)) := propext ⟨fun ⟨z, h1, _, h⟩ => by rw [zd9] at h1; injection h1 with h1; subst h1; exact h, fun h => ⟨_, zd9, by decide, h⟩⟩
@[go_sem] theorem lo12 (x : D) : loadOK Try.prog 12 x = (x.isAgg = false) := by
  unfold loadOK; rw [ag12]; cases h : x.isAgg <;> simp
@[go_sem] theorem al12 (K : SV → Option Ob → Prop) : evAlloc zeroD id 12 K = K (.bx id) (some (.var true [] (.int .u64 0) 12)) := propext ⟨fun ⟨z, h1, _, h⟩ => by rw [zd12] at h1; injection h1 with h1; subst h1; exact h, fun h => ⟨_, zd12, by decide, h⟩⟩
@[go_sem] theorem lo13 (x : D) : loadOK Try.prog 13 x = (x.isAgg = true ∧ x.sz = 2) := by
  unfold loadOK; rw [ag13, sz13]; cases h : x.isAgg <;> simp [eq_comm]
@[go_sem] theorem al13 (K : SV → Option Ob → Prop) : evAlloc zeroD id 13 K = K (.bx id) (some (.var true [] (.acons (.str ⟨#[]⟩) (.acons (.int .u64 0) .anil)) 13)) := propext ⟨fun ⟨z, h1, _, h⟩ => by rw [zd13] at h1; injection h1 with h1; subst h1; exact h, fun h => ⟨_, zd13, by decide, h⟩⟩
@[go_sem ↓] theorem fk13_0 (K : Nat → Prop) : fdOK Try.prog 13 0 K = K 0 := propext ⟨fun ⟨o, ty, m, h1, h2, h⟩ => by rw [fd13_0] at h1; injection h1 with h1; injection h1 with h1 h3; subst h1; exact h, fun h => ⟨_, _, 0, fd13_0, sz9, h⟩⟩
@[go_sem ↓] theorem fk13_1 (K : Nat → Prop) : fdOK Try.prog 13 1 K = K 1 := propext ⟨fun ⟨o, ty, m, h1, h2, h⟩ => by rw [fd13_1] at h1; injection h1 with h1; injection h1 with h1 h3; subst h1; exact h, fun h => ⟨_, _, 0, fd13_1, sz12, h⟩⟩
@[go_sem] theorem bd13 (parts : List (Nat × SV)) (K : SV → Prop) : evBuild Try.prog zeroD 13 parts K = evFill [(0, 1), (1, 1)] (.acons (.str ⟨#[]⟩) (.acons (.int .u64 0) .anil)) true [] parts K := propext ⟨fun ⟨z, pl, h1, h2, h3, h⟩ => by rw [zd13] at h1; rw [pl13] at h3; injection h1 with h1; injection h3 with h3; subst h1; subst h3; exact h, fun h => ⟨_, _, zd13, rfl, pl13, h⟩⟩
@[go_sem] theorem lo19 (x : D) : loadOK Try.prog 19 x = (x.isAgg = true ∧ x.sz = 1) := by
  unfold loadOK; rw [ag19, sz19]; cases h : x.isAgg <;> simp [eq_comm]
@[go_sem] theorem lo20 (x : D) : loadOK Try.prog 20 x = (x.isAgg = false) := by
  unfold loadOK; rw [ag20]; cases h : x.isAgg <;> simp
@[go_sem] theorem al20 (K : SV → Option Ob → Prop) : evAlloc zeroD id 20 K = K (.bx id) (some (.var true [] (.err false) 20)) := propext ⟨fun ⟨z, h1, _, h⟩ => by rw [zd20] at h1; injection h1 with h1; subst h1; exact h, fun h => ⟨_, zd20, by decide, h⟩⟩
@[go_sem] theorem lo21 (x : D) : loadOK Try.prog 21 x = (x.isAgg = false) := by
  unfold loadOK; rw [ag21]; cases h : x.isAgg <;> simp
@[go_sem] theorem al21 (K : SV → Option Ob → Prop) : evAlloc zeroD id 21 K = K (.bx id) (some (.var true [] (.int .i32 0) 21)) := propext ⟨fun ⟨z, h1, _, h⟩ => by rw [zd21] at h1; injection h1 with h1; subst h1; exact h, fun h => ⟨_, zd21, by decide, h⟩⟩
@[go_sem] theorem lo22 (x : D) : loadOK Try.prog 22 x = (x.isAgg = false) := by
  unfold loadOK; rw [ag22]; cases h : x.isAgg <;> simp
@[go_sem] theorem al22 (K : SV → Option Ob → Prop) : evAlloc zeroD id 22 K = K (.bx id) (some (.var true [] .nils 22)) := propext ⟨fun ⟨z, h1, _, h⟩ => by rw [zd22] at h1; injection h1 with h1; subst h1; exact h, fun h => ⟨_, zd22, by decide, h⟩⟩
@[go_sem] theorem el22 (x : D) : elOK Try.prog 22 x = (x.sz = 1) := propext ⟨fun ⟨e, h1, h2⟩ => by rw [sl22] at h1; have h1 := Option.some.inj h1; subst h1; have h3 := (sz2).symm.trans h2; exact (Option.some.inj h3).symm, fun h => ⟨_, sl22, (sz2).trans (congrArg some h.symm)⟩⟩
@[go_sem] theorem mk22 (K : SV → Option Ob → Prop) : evMake Try.prog zeroD id 22 l c K = vInt l (hd (fun k n => vInt c (hd (fun _ m => k = .i64 ∧ n = m ∧ 0 ≤ n ∧ n ≤ 9223372036854775807 ∧ n * 8 ≤ 281474976710656 ∧ K (.own id 0) (some (.arr 0 true [] (.list n.toNat (fun _ => (.int .i64 0))) 2 1))) .mk)) .mk) := by
  unfold evMake hd; congr 1; funext k n; congr 1; funext _ m
  refine propext ⟨fun ⟨a1, a2, a3, a4, e, z, b, h1, h2, _, h4, h5, h⟩ => ?_, fun ⟨a1, a2, a3, a4, h5, h⟩ => ⟨a1, a2, a3, a4, _, _, _, sl22, zd2, by decide, by2, h5, h⟩⟩
  rw [sl22] at h1; injection h1 with h1; subst h1; rw [zd2] at h2; injection h2 with h2; subst h2; rw [by2] at h4; injection h4 with h4; subst h4; exact ⟨a1, a2, a3, a4, h5, h⟩
@[go_sem] theorem ap22 (n m : Nat) (K : Nat → Nat → Prop) : appOK Try.prog zeroD 22 n m K = (n + m ≤ 134217728 ∧ K 2 1) := by
  refine propext ⟨fun ⟨e, z, b, h1, h2, _, h4, h5, h6, h⟩ => ?_, fun ⟨h6, h⟩ => ⟨_, _, _, sl22, zd2, by decide, by2, by decide, h6, h⟩⟩
  rw [sl22] at h1; injection h1 with h1; subst h1; rw [zd2] at h2; injection h2 with h2; subst h2; exact ⟨h6, h⟩
@[go_sem] theorem bs22 (len : Nat) (parts : List (Nat × SV)) (K : SV → Option Ob → Prop) : evBuildSlice Try.prog 22 len id parts K = (parts.length = len ∧ len * 1 ≤ 16777216 ∧ evElems 1 0 parts true [] [] (hd (fun pr re xs => K (.own id 0) (some (.arr 0 pr re (.list len (fun i => xs.getD i .anil)) 2 1))) .mk)) := by
  refine propext ⟨fun ⟨e, sz, h1, h2, h3, h4, h5, h⟩ => ?_, fun ⟨h4, h5, h⟩ => ⟨_, 0, sl22, sz2, fun h => by have := zn2; simp [h] at this, h4, h5, h⟩⟩
  rw [sl22] at h1; injection h1 with h1; subst h1; rw [sz2] at h2; injection h2 with h2; have : sz = 0 := by omega
  subst this; exact ⟨h4, h5, h⟩
@[go_sem] theorem lo23 (x : D) : loadOK Try.prog 23 x = (x.isAgg = true ∧ x.sz = 3) := by
  unfold loadOK; rw [ag23, sz23]; cases h : x.isAgg <;> simp [eq_comm]
@[go_sem] theorem al23 (K : SV → Option Ob → Prop) : evAlloc zeroD id 23 K = K (.bx id) (some (.var true [] (.acons (.int .i64 0) (.acons (.int .i64 0) (.acons .nils .anil))) 23)) := propext ⟨fun ⟨z, h1, _, h⟩ => by rw [zd23] at h1; injection h1 with h1; subst h1; exact h, fun h => ⟨_, zd23, by decide, h⟩⟩
@[go_sem ↓] theorem fk23_0 (K : Nat → Prop) : fdOK Try.prog 23 0 K = K 0 := propext ⟨fun ⟨o, ty, m, h1, h2, h⟩ => by rw [fd23_0] at h1; injection h1 with h1; injection h1 with h1 h3; subst h1; exact h, fun h => ⟨_, _, 0, fd23_0, sz2, h⟩⟩
@[go_sem ↓] theorem fk23_1 (K : Nat → Prop) : fdOK Try.prog 23 1 K = K 1 := propext ⟨fun ⟨o, ty, m, h1, h2, h⟩ => by rw [fd23_1] at h1; injection h1 with h1; injection h1 with h1 h3; subst h1; exact h, fun h => ⟨_, _, 0, fd23_1, sz2, h⟩⟩
@[go_sem ↓] theorem fk23_2 (K : Nat → Prop) : fdOK Try.prog 23 2 K = K 2 := propext ⟨fun ⟨o, ty, m, h1, h2, h⟩ => by rw [fd23_2] at h1; injection h1 with h1; injection h1 with h1 h3; subst h1; exact h, fun h => ⟨_, _, 0, fd23_2, sz22, h⟩⟩
@[go_sem] theorem bd23 (parts : List (Nat × SV)) (K : SV → Prop) : evBuild Try.prog zeroD 23 parts K = evFill [(0, 1), (1, 1), (2, 1)] (.acons (.int .i64 0) (.acons (.int .i64 0) (.acons .nils .anil))) true [] parts K := propext ⟨fun ⟨z, pl, h1, h2, h3, h⟩ => by rw [zd23] at h1; rw [pl23] at h3; injection h1 with h1; injection h3 with h3; subst h1; subst h3; exact h, fun h => ⟨_, _, zd23, rfl, pl23, h⟩⟩
@[go_sem] theorem lo24 (x : D) : loadOK Try.prog 24 x = (x.isAgg = true ∧ x.sz = 3) := by
  unfold loadOK; rw [ag24, sz24]; cases h : x.isAgg <;> simp [eq_comm]
@[go_sem] theorem al24 (K : SV → Option Ob → Prop) : evAlloc zeroD id 24 K = K (.bx id) (some (.var true [] (.acons (.int .i64 0) (.acons (.int .i64 0) (.acons .nils .anil))) 24)) := propext ⟨fun ⟨z, h1, _, h⟩ => by rw [zd24] at h1; injection h1 with h1; subst h1; exact h, fun h => ⟨_, zd24, by decide, h⟩⟩
@[go_sem ↓] theorem fk24_0 (K : Nat → Prop) : fdOK Try.prog 24 0 K = K 0 := propext ⟨fun ⟨o, ty, m, h1, h2, h⟩ => by rw [fd24_0] at h1; injection h1 with h1; injection h1 with h1 h3; subst h1; exact h, fun h => ⟨_, _, 0, fd24_0, sz2, h⟩⟩
@[go_sem ↓] theorem fk24_1 (K : Nat → Prop) : fdOK Try.prog 24 1 K = K 1 := propext ⟨fun ⟨o, ty, m, h1, h2, h⟩ => by rw [fd24_1] at h1; injection h1 with h1; injection h1 with h1 h3; subst h1; exact h, fun h => ⟨_, _, 0, fd24_1, sz2, h⟩⟩
@[go_sem ↓] theorem fk24_2 (K : Nat → Prop) : fdOK Try.prog 24 2 K = K 2 := propext ⟨fun ⟨o, ty, m, h1, h2, h⟩ => by rw [fd24_2] at h1; injection h1 with h1; injection h1 with h1 h3; subst h1; exact h, fun h => ⟨_, _, 0, fd24_2, sz22, h⟩⟩
@[go_sem] theorem bd24 (parts : List (Nat × SV)) (K : SV → Prop) : evBuild Try.prog zeroD 24 parts K = evFill [(0, 1), (1, 1), (2, 1)] (.acons (.int .i64 0) (.acons (.int .i64 0) (.acons .nils .anil))) true [] parts K := propext ⟨fun ⟨z, pl, h1, h2, h3, h⟩ => by rw [zd24] at h1; rw [pl24] at h3; injection h1 with h1; injection h3 with h3; subst h1; subst h3; exact h, fun h => ⟨_, _, zd24, rfl, pl24, h⟩⟩
@[go_sem] theorem lo27 (x : D) : loadOK Try.prog 27 x = (x.isAgg = true ∧ x.sz = 3) := by
  unfold loadOK; rw [ag27, sz27]; cases h : x.isAgg <;> simp [eq_comm]
@[go_sem] theorem al27 (K : SV → Option Ob → Prop) : evAlloc zeroD id 27 K = K (.bx id) (some (.var true [] (.acons (.int .i64 0) (.acons (.int .i64 0) (.acons .nils .anil))) 27)) := propext ⟨fun ⟨z, h1, _, h⟩ => by rw [zd27] at h1; injection h1 with h1; subst h1; exact h, fun h => ⟨_, zd27, by decide, h⟩⟩
@[go_sem ↓] theorem fk27_0 (K : Nat → Prop) : fdOK Try.prog 27 0 K = K 0 := propext ⟨fun ⟨o, ty, m, h1, h2, h⟩ => by rw [fd27_0] at h1; injection h1 with h1; injection h1 with h1 h3; subst h1; exact h, fun h => ⟨_, _, 0, fd27_0, sz2, h⟩⟩
@[go_sem ↓] theorem fk27_1 (K : Nat → Prop) : fdOK Try.prog 27 1 K = K 1 := propext ⟨fun ⟨o, ty, m, h1, h2, h⟩ => by rw [fd27_1] at h1; injection h1 with h1; injection h1 with h1 h3; subst h1; exact h, fun h => ⟨_, _, 0, fd27_1, sz2, h⟩⟩
@[go_sem ↓] theorem fk27_2 (K : Nat → Prop) : fdOK Try.prog 27 2 K = K 2 := propext ⟨fun ⟨o, ty, m, h1, h2, h⟩ => by rw [fd27_2] at h1; injection h1 with h1; injection h1 with h1 h3; subst h1; exact h, fun h => ⟨_, _, 0, fd27_2, sz22, h⟩⟩
@[go_sem] theorem bd27 (parts : List (Nat × SV)) (K : SV → Prop) : evBuild Try.prog zeroD 27 parts K = evFill [(0, 1), (1, 1), (2, 1)] (.acons (.int .i64 0) (.acons (.int .i64 0) (.acons .nils .anil))) true [] parts K := propext ⟨fun ⟨z, pl, h1, h2, h3, h⟩ => by rw [zd27] at h1; rw [pl27] at h3; injection h1 with h1; injection h3 with h3; subst h1; subst h3; exact h, fun h => ⟨_, _, zd27, rfl, pl27, h⟩⟩
@[go_sem] theorem lo31 (x : D) : loadOK Try.prog 31 x = (x.isAgg = false) := by
  unfold loadOK; rw [ag31]; cases h : x.isAgg <;> simp
@[go_sem] theorem al31 (K : SV → Option Ob → Prop) : evAlloc zeroD id 31 K = K (.bx id) (some (.var true [] .nils 31)) := propext ⟨fun ⟨z, h1, _, h⟩ => by rw [zd31] at h1; injection h1 with h1; subst h1; exact h, fun h => ⟨_, zd31, by decide, h⟩⟩
@[go_sem] theorem el31 (x : D) : elOK Try.prog 31 x = (x.sz = 1) := propext ⟨fun ⟨e, h1, h2⟩ => by rw [sl31] at h1; have h1 := Option.some.inj h1; subst h1; have h3 := (sz52).symm.trans h2; exact (Option.some.inj h3).symm, fun h => ⟨_, sl31, (sz52).trans (congrArg some h.symm)⟩⟩
@[go_sem] theorem mk31 (K : SV → Option Ob → Prop) : evMake Try.prog zeroD id 31 l c K = vInt l (hd (fun k n => vInt c (hd (fun _ m => k = .i64 ∧ n = m ∧ 0 ≤ n ∧ n ≤ 9223372036854775807 ∧ n * 24 ≤ 281474976710656 ∧ K (.own id 0) (some (.arr 0 true [] (.list n.toNat (fun _ => .nils)) 52 1))) .mk)) .mk) := by
  unfold evMake hd; congr 1; funext k n; congr 1; funext _ m
  refine propext ⟨fun ⟨a1, a2, a3, a4, e, z, b, h1, h2, _, h4, h5, h⟩ => ?_, fun ⟨a1, a2, a3, a4, h5, h⟩ => ⟨a1, a2, a3, a4, _, _, _, sl31, zd52, by decide, by52, h5, h⟩⟩
  rw [sl31] at h1; injection h1 with h1; subst h1; rw [zd52] at h2; injection h2 with h2; subst h2; rw [by52] at h4; injection h4 with h4; subst h4; exact ⟨a1, a2, a3, a4, h5, h⟩
@[go_sem] theorem ap31 (n m : Nat) (K : Nat → Nat → Prop) : appOK Try.prog zeroD 31 n m K = (n + m ≤ 134217728 ∧ K 52 1) := by
  refine propext ⟨fun ⟨e, z, b, h1, h2, _, h4, h5, h6, h⟩ => ?_, fun ⟨h6, h⟩ => ⟨_, _, _, sl31, zd52, by decide, by52, by decide, h6, h⟩⟩
  rw [sl31] at h1; injection h1 with h1; subst h1; rw [zd52] at h2; injection h2 with h2; subst h2; exact ⟨h6, h⟩
@[go_sem] theorem bs31 (len : Nat) (parts : List (Nat × SV)) (K : SV → Option Ob → Prop) : evBuildSlice Try.prog 31 len id parts K = (parts.length = len ∧ len * 1 ≤ 16777216 ∧ evElems 1 0 parts true [] [] (hd (fun pr re xs => K (.own id 0) (some (.arr 0 pr re (.list len (fun i => xs.getD i .anil)) 52 1))) .mk)) := by
  refine propext ⟨fun ⟨e, sz, h1, h2, h3, h4, h5, h⟩ => ?_, fun ⟨h4, h5, h⟩ => ⟨_, 0, sl31, sz52, fun h => by have := zn52; simp [h] at this, h4, h5, h⟩⟩
  rw [sl31] at h1; injection h1 with h1; subst h1; rw [sz52] at h2; injection h2 with h2; have : sz = 0 := by omega
  subst this; exact ⟨h4, h5, h⟩
@[go_sem] theorem lo36 (x : D) : loadOK Try.prog 36 x = (x.isAgg = false) := by
  unfold loadOK; rw [ag36]; cases h : x.isAgg <;> simp
@[go_sem] theorem al36 (K : SV → Option Ob → Prop) : evAlloc zeroD id 36 K = K (.bx id) (some (.var true [] .nils 36)) := propext ⟨fun ⟨z, h1, _, h⟩ => by rw [zd36] at h1; injection h1 with h1; subst h1; exact h, fun h => ⟨_, zd36, by decide, h⟩⟩
@[go_sem] theorem el36 (x : D) : elOK Try.prog 36 x = (x.sz = 3) := propext ⟨fun ⟨e, h1, h2⟩ => by rw [sl36] at h1; have h1 := Option.some.inj h1; subst h1; have h3 := (sz59).symm.trans h2; exact (Option.some.inj h3).symm, fun h => ⟨_, sl36, (sz59).trans (congrArg some h.symm)⟩⟩
@[go_sem] theorem mk36 (K : SV → Option Ob → Prop) : evMake Try.prog zeroD id 36 l c K = vInt l (hd (fun k n => vInt c (hd (fun _ m => k = .i64 ∧ n = m ∧ 0 ≤ n ∧ n ≤ 9223372036854775807 ∧ n * 40 ≤ 281474976710656 ∧ K (.own id 0) (some (.arr 0 true [] (.list n.toNat (fun _ => (.acons (.int .i64 0) (.acons (.int .i64 0) (.acons .nils .anil))))) 59 3))) .mk)) .mk) := by
  unfold evMake hd; congr 1; funext k n; congr 1; funext _ m
  refine propext ⟨fun ⟨a1, a2, a3, a4, e, z, b, h1, h2, _, h4, h5, h⟩ => ?_, fun ⟨a1, a2, a3, a4, h5, h⟩ => ⟨a1, a2, a3, a4, _, _, _, sl36, zd59, by decide, by59, h5, h⟩⟩
  rw [sl36] at h1; injection h1 with h1; subst h1; rw [zd59] at h2; injection h2 with h2; subst h2; rw [by59] at h4; injection h4 with h4; subst h4; exact ⟨a1, a2, a3, a4, h5, h⟩
@[go_sem] theorem ap36 (n m : Nat) (K : Nat → Nat → Prop) : appOK Try.prog zeroD 36 n m K = (n + m ≤ 134217728 ∧ K 59 3) := by
  refine propext ⟨fun ⟨e, z, b, h1, h2, _, h4, h5, h6, h⟩ => ?_, fun ⟨h6, h⟩ => ⟨_, _, _, sl36, zd59, by decide, by59, by decide, h6, h⟩⟩
  rw [sl36] at h1; injection h1 with h1; subst h1; rw [zd59] at h2; injection h2 with h2; subst h2; exact ⟨h6, h⟩
@[go_sem] theorem bs36 (len : Nat) (parts : List (Nat × SV)) (K : SV → Option Ob → Prop) : evBuildSlice Try.prog 36 len id parts K = (parts.length = len ∧ len * 3 ≤ 16777216 ∧ evElems 3 0 parts true [] [] (hd (fun pr re xs => K (.own id 0) (some (.arr 0 pr re (.list len (fun i => xs.getD i .anil)) 59 3))) .mk)) := by
  refine propext ⟨fun ⟨e, sz, h1, h2, h3, h4, h5, h⟩ => ?_, fun ⟨h4, h5, h⟩ => ⟨_, 2, sl36, sz59, fun h => by have := zn59; simp [h] at this, h4, h5, h⟩⟩
  rw [sl36] at h1; injection h1 with h1; subst h1; rw [sz59] at h2; injection h2 with h2; have : sz = 2 := by omega
  subst this; exact ⟨h4, h5, h⟩
@[go_sem] theorem lo40 (x : D) : loadOK Try.prog 40 x = (x.isAgg = false) := by
  unfold loadOK; rw [ag40]; cases h : x.isAgg <;> simp
@[go_sem] theorem al40 (K : SV → Option Ob → Prop) : evAlloc zeroD id 40 K = K (.bx id) (some (.var true [] .nils 40)) := propext ⟨fun ⟨z, h1, _, h⟩ => by rw [zd40] at h1; injection h1 with h1; subst h1; exact h, fun h => ⟨_, zd40, by decide, h⟩⟩
@[go_sem] theorem el40 (x : D) : elOK Try.prog 40 x = (x.sz = 3) := propext ⟨fun ⟨e, h1, h2⟩ => by rw [sl40] at h1; have h1 := Option.some.inj h1; subst h1; have h3 := (sz68).symm.trans h2; exact (Option.some.inj h3).symm, fun h => ⟨_, sl40, (sz68).trans (congrArg some h.symm)⟩⟩
@[go_sem] theorem mk40 (K : SV → Option Ob → Prop) : evMake Try.prog zeroD id 40 l c K = vInt l (hd (fun k n => vInt c (hd (fun _ m => k = .i64 ∧ n = m ∧ 0 ≤ n ∧ n ≤ 9223372036854775807 ∧ n * 40 ≤ 281474976710656 ∧ K (.own id 0) (some (.arr 0 true [] (.list n.toNat (fun _ => (.acons (.int .i64 0) (.acons (.int .i64 0) (.acons .nils .anil))))) 68 3))) .mk)) .mk) := by
  unfold evMake hd; congr 1; funext k n; congr 1; funext _ m
  refine propext ⟨fun ⟨a1, a2, a3, a4, e, z, b, h1, h2, _, h4, h5, h⟩ => ?_, fun ⟨a1, a2, a3, a4, h5, h⟩ => ⟨a1, a2, a3, a4, _, _, _, sl40, zd68, by decide, by68, h5, h⟩⟩
  rw [sl40] at h1; injection h1 with h1; subst h1; rw [zd68] at h2; injection h2 with h2; subst h2; rw [by68] at h4; injection h4 with h4; subst h4; exact ⟨a1, a2, a3, a4, h5, h⟩
@[go_sem] theorem ap40 (n m : Nat) (K : Nat → Nat → Prop) : appOK Try.prog zeroD 40 n m K = (n + m ≤ 134217728 ∧ K 68 3) := by
  refine propext ⟨fun ⟨e, z, b, h1, h2, _, h4, h5, h6, h⟩ => ?_, fun ⟨h6, h⟩ => ⟨_, _, _, sl40, zd68, by decide, by68, by decide, h6, h⟩⟩
  rw [sl40] at h1; injection h1 with h1; subst h1; rw [zd68] at h2; injection h2 with h2; subst h2; exact ⟨h6, h⟩
@[go_sem] theorem bs40 (len : Nat) (parts : List (Nat × SV)) (K : SV → Option Ob → Prop) : evBuildSlice Try.prog 40 len id parts K = (parts.length = len ∧ len * 3 ≤ 16777216 ∧ evElems 3 0 parts true [] [] (hd (fun pr re xs => K (.own id 0) (some (.arr 0 pr re (.list len (fun i => xs.getD i .anil)) 68 3))) .mk)) := by
  refine propext ⟨fun ⟨e, sz, h1, h2, h3, h4, h5, h⟩ => ?_, fun ⟨h4, h5, h⟩ => ⟨_, 2, sl40, sz68, fun h => by have := zn68; simp [h] at this, h4, h5, h⟩⟩
  rw [sl40] at h1; injection h1 with h1; subst h1; rw [sz68] at h2; injection h2 with h2; have : sz = 2 := by omega
  subst this; exact ⟨h4, h5, h⟩
@[go_sem] theorem lo52 (x : D) : loadOK Try.prog 52 x = (x.isAgg = false) := by
  unfold loadOK; rw [ag52]; cases h : x.isAgg <;> simp
@[go_sem] theorem al52 (K : SV → Option Ob → Prop) : evAlloc zeroD id 52 K = K (.bx id) (some (.var true [] .nils 52)) := propext ⟨fun ⟨z, h1, _, h⟩ => by rw [zd52] at h1; injection h1 with h1; subst h1; exact h, fun h => ⟨_, zd52, by decide, h⟩⟩
@[go_sem] theorem el52 (x : D) : elOK Try.prog 52 x = (x.sz = 1) := propext ⟨fun ⟨e, h1, h2⟩ => by rw [sl52] at h1; have h1 := Option.some.inj h1; subst h1; have h3 := (sz9).symm.trans h2; exact (Option.some.inj h3).symm, fun h => ⟨_, sl52, (sz9).trans (congrArg some h.symm)⟩⟩
@[go_sem] theorem mk52 (K : SV → Option Ob → Prop) : evMake Try.prog zeroD id 52 l c K = vInt l (hd (fun k n => vInt c (hd (fun _ m => k = .i64 ∧ n = m ∧ 0 ≤ n ∧ n ≤ 9223372036854775807 ∧ n * 16 ≤ 281474976710656 ∧ K (.own id 0) (some (.arr 0 true [] (.list n.toNat (fun _ => (.str ⟨#[]⟩))) 9 1))) .mk)) .mk) := by
  unfold evMake hd; congr 1; funext k n; congr 1; funext _ m
  refine propext ⟨fun ⟨a1, a2, a3, a4, e, z, b, h1, h2, _, h4, h5, h⟩ => ?_, fun ⟨a1, a2, a3, a4, h5, h⟩ => ⟨a1, a2, a3, a4, _, _, _, sl52, zd9, by decide, by9, h5, h⟩⟩
  rw [sl52] at h1; injection h1 with h1; subst h1; rw [zd9] at h2; injection h2 with h2; subst h2; rw [by9] at h4; injection h4 with h4; subst h4; exact ⟨a1, a2, a3, a4, h5, h⟩
@[go_sem] theorem ap52 (n m : Nat) (K : Nat → Nat → Prop) : appOK Try.prog zeroD 52 n m K = (n + m ≤ 134217728 ∧ K 9 1) := by
  refine propext ⟨fun ⟨e, z, b, h1, h2, _, h4, h5, h6, h⟩ => ?_, fun ⟨h6, h⟩ => ⟨_, _, _, sl52, zd9, by decide, by9, by decide, h6, h⟩⟩
  rw [sl52] at h1; injection h1 with h1; subst h1; rw [zd9] at h2; injection h2 with h2; subst h2; exact ⟨h6, h⟩
@[go_sem] theorem bs52 (len : Nat) (parts : List (Nat × SV)) (K : SV → Option Ob → Prop) : evBuildSlice Try.prog 52 len id parts K = (parts.length = len ∧ len * 1 ≤ 16777216 ∧ evElems 1 0 parts true [] [] (hd (fun pr re xs => K (.own id 0) (some (.arr 0 pr re (.list len (fun i => xs.getD i .anil)) 9 1))) .mk)) := by
  refine propext ⟨fun ⟨e, sz, h1, h2, h3, h4, h5, h⟩ => ?_, fun ⟨h4, h5, h⟩ => ⟨_, 0, sl52, sz9, fun h => by have := zn9; simp [h] at this, h4, h5, h⟩⟩
  rw [sl52] at h1; injection h1 with h1; subst h1; rw [sz9] at h2; injection h2 with h2; have : sz = 0 := by omega
  subst this; exact ⟨h4, h5, h⟩
@[go_sem] theorem lo58 (x : D) : loadOK Try.prog 58 x = (x.isAgg = true ∧ x.sz = 3) := by
  unfold loadOK; rw [ag58, sz58]; cases h : x.isAgg <;> simp [eq_comm]
@[go_sem] theorem al58 (K : SV → Option Ob → Prop) : evAlloc zeroD id 58 K = K (.bx id) (some (.var true [] (.acons (.int .i64 0) (.acons (.int .i64 0) (.acons .nils .anil))) 58)) := propext ⟨fun ⟨z, h1, _, h⟩ => by rw [zd58] at h1; injection h1 with h1; subst h1; exact h, fun h => ⟨_, zd58, by decide, h⟩⟩
@[go_sem ↓] theorem fk58_0 (K : Nat → Prop) : fdOK Try.prog 58 0 K = K 0 := propext ⟨fun ⟨o, ty, m, h1, h2, h⟩ => by rw [fd58_0] at h1; injection h1 with h1; injection h1 with h1 h3; subst h1; exact h, fun h => ⟨_, _, 0, fd58_0, sz2, h⟩⟩
@[go_sem ↓] theorem fk58_1 (K : Nat → Prop) : fdOK Try.prog 58 1 K = K 1 := propext ⟨fun ⟨o, ty, m, h1, h2, h⟩ => by rw [fd58_1] at h1; injection h1 with h1; injection h1 with h1 h3; subst h1; exact h, fun h => ⟨_, _, 0, fd58_1, sz2, h⟩⟩
@[go_sem ↓] theorem fk58_2 (K : Nat → Prop) : fdOK Try.prog 58 2 K = K 2 := propext ⟨fun ⟨o, ty, m, h1, h2, h⟩ => by rw [fd58_2] at h1; injection h1 with h1; injection h1 with h1 h3; subst h1; exact h, fun h => ⟨_, _, 0, fd58_2, sz22, h⟩⟩
@[go_sem] theorem bd58 (parts : List (Nat × SV)) (K : SV → Prop) : evBuild Try.prog zeroD 58 parts K = evFill [(0, 1), (1, 1), (2, 1)] (.acons (.int .i64 0) (.acons (.int .i64 0) (.acons .nils .anil))) true [] parts K := propext ⟨fun ⟨z, pl, h1, h2, h3, h⟩ => by rw [zd58] at h1; rw [pl58] at h3; injection h1 with h1; injection h3 with h3; subst h1; subst h3; exact h, fun h => ⟨_, _, zd58, rfl, pl58, h⟩⟩
@[go_sem] theorem lo59 (x : D) : loadOK Try.prog 59 x = (x.isAgg = true ∧ x.sz = 3) := by
  unfold loadOK; rw [ag59, sz59]; cases h : x.isAgg <;> simp [eq_comm]
@[go_sem] theorem al59 (K : SV → Option Ob → Prop) : evAlloc zeroD id 59 K = K (.bx id) (some (.var true [] (.acons (.int .i64 0) (.acons (.int .i64 0) (.acons .nils .anil))) 59)) := propext ⟨fun ⟨z, h1, _, h⟩ => by rw [zd59] at h1; injection h1 with h1; subst h1; exact h, fun h => ⟨_, zd59, by decide, h⟩⟩
@[go_sem ↓] theorem fk59_0 (K : Nat → Prop) : fdOK Try.prog 59 0 K = K 0 := propext ⟨fun ⟨o, ty, m, h1, h2, h⟩ => by rw [fd59_0] at h1; injection h1 with h1; injection h1 with h1 h3; subst h1; exact h, fun h => ⟨_, _, 0, fd59_0, sz2, h⟩⟩
@[go_sem ↓] theorem fk59_1 (K : Nat → Prop) : fdOK Try.prog 59 1 K = K 1 := propext ⟨fun ⟨o, ty, m, h1, h2, h⟩ => by rw [fd59_1] at h1; injection h1 with h1; injection h1 with h1 h3; subst h1; exact h, fun h => ⟨_, _, 0, fd59_1, sz2, h⟩⟩
@[go_sem ↓] theorem fk59_2 (K : Nat → Prop) : fdOK Try.prog 59 2 K = K 2 := propext ⟨fun ⟨o, ty, m, h1, h2, h⟩ => by rw [fd59_2] at h1; injection h1 with h1; injection h1 with h1 h3; subst h1; exact h, fun h => ⟨_, _, 0, fd59_2, sz22, h⟩⟩
@[go_sem] theorem bd59 (parts : List (Nat × SV)) (K : SV → Prop) : evBuild Try.prog zeroD 59 parts K = evFill [(0, 1), (1, 1), (2, 1)] (.acons (.int .i64 0) (.acons (.int .i64 0) (.acons .nils .anil))) true [] parts K := propext ⟨fun ⟨z, pl, h1, h2, h3, h⟩ => by rw [zd59] at h1; rw [pl59] at h3; injection h1 with h1; injection h3 with h3; subst h1; subst h3; exact h, fun h => ⟨_, _, zd59, rfl, pl59, h⟩⟩
@[go_sem] theorem lo63 (x : D) : loadOK Try.prog 63 x = (x.isAgg = false) := by
  unfold loadOK; rw [ag63]; cases h : x.isAgg <;> simp
@[go_sem] theorem al63 (K : SV → Option Ob → Prop) : evAlloc zeroD id 63 K = K (.bx id) (some (.var true [] .nils 63)) := propext ⟨fun ⟨z, h1, _, h⟩ => by rw [zd63] at h1; injection h1 with h1; subst h1; exact h, fun h => ⟨_, zd63, by decide, h⟩⟩
@[go_sem] theorem el63 (x : D) : elOK Try.prog 63 x = (x.sz = 1) := propext ⟨fun ⟨e, h1, h2⟩ => by rw [sl63] at h1; have h1 := Option.some.inj h1; subst h1; have h3 := (sz4).symm.trans h2; exact (Option.some.inj h3).symm, fun h => ⟨_, sl63, (sz4).trans (congrArg some h.symm)⟩⟩
@[go_sem] theorem mk63 (K : SV → Option Ob → Prop) : evMake Try.prog zeroD id 63 l c K = vInt l (hd (fun k n => vInt c (hd (fun _ m => k = .i64 ∧ n = m ∧ 0 ≤ n ∧ n ≤ 9223372036854775807 ∧ n * 1 ≤ 281474976710656 ∧ K (.own id 0) (some (.arr 0 true [] (.list n.toNat (fun _ => (.bool false))) 4 1))) .mk)) .mk) := by
  unfold evMake hd; congr 1; funext k n; congr 1; funext _ m
  refine propext ⟨fun ⟨a1, a2, a3, a4, e, z, b, h1, h2, _, h4, h5, h⟩ => ?_, fun ⟨a1, a2, a3, a4, h5, h⟩ => ⟨a1, a2, a3, a4, _, _, _, sl63, zd4, by decide, by4, h5, h⟩⟩
  rw [sl63] at h1; injection h1 with h1; subst h1; rw [zd4] at h2; injection h2 with h2; subst h2; rw [by4] at h4; injection h4 with h4; subst h4; exact ⟨a1, a2, a3, a4, h5, h⟩
@[go_sem] theorem ap63 (n m : Nat) (K : Nat → Nat → Prop) : appOK Try.prog zeroD 63 n m K = (n + m ≤ 134217728 ∧ K 4 1) := by
  refine propext ⟨fun ⟨e, z, b, h1, h2, _, h4, h5, h6, h⟩ => ?_, fun ⟨h6, h⟩ => ⟨_, _, _, sl63, zd4, by decide, by4, by decide, h6, h⟩⟩
  rw [sl63] at h1; injection h1 with h1; subst h1; rw [zd4] at h2; injection h2 with h2; subst h2; exact ⟨h6, h⟩
@[go_sem] theorem bs63 (len : Nat) (parts : List (Nat × SV)) (K : SV → Option Ob → Prop) : evBuildSlice Try.prog 63 len id parts K = (parts.length = len ∧ len * 1 ≤ 16777216 ∧ evElems 1 0 parts true [] [] (hd (fun pr re xs => K (.own id 0) (some (.arr 0 pr re (.list len (fun i => xs.getD i .anil)) 4 1))) .mk)) := by
  refine propext ⟨fun ⟨e, sz, h1, h2, h3, h4, h5, h⟩ => ?_, fun ⟨h4, h5, h⟩ => ⟨_, 0, sl63, sz4, fun h => by have := zn4; simp [h] at this, h4, h5, h⟩⟩
  rw [sl63] at h1; injection h1 with h1; subst h1; rw [sz4] at h2; injection h2 with h2; have : sz = 0 := by omega
  subst this; exact ⟨h4, h5, h⟩
@[go_sem] theorem lo68 (x : D) : loadOK Try.prog 68 x = (x.isAgg = true ∧ x.sz = 3) := by
  unfold loadOK; rw [ag68, sz68]; cases h : x.isAgg <;> simp [eq_comm]
@[go_sem] theorem al68 (K : SV → Option Ob → Prop) : evAlloc zeroD id 68 K = K (.bx id) (some (.var true [] (.acons (.int .i64 0) (.acons (.int .i64 0) (.acons .nils .anil))) 68)) := propext ⟨fun ⟨z, h1, _, h⟩ => by rw [zd68] at h1; injection h1 with h1; subst h1; exact h, fun h => ⟨_, zd68, by decide, h⟩⟩
@[go_sem ↓] theorem fk68_0 (K : Nat → Prop) : fdOK Try.prog 68 0 K = K 0 := propext ⟨fun ⟨o, ty, m, h1, h2, h⟩ => by rw [fd68_0] at h1; injection h1 with h1; injection h1 with h1 h3; subst h1; exact h, fun h => ⟨_, _, 0, fd68_0, sz2, h⟩⟩
@[go_sem ↓] theorem fk68_1 (K : Nat → Prop) : fdOK Try.prog 68 1 K = K 1 := propext ⟨fun ⟨o, ty, m, h1, h2, h⟩ => by rw [fd68_1] at h1; injection h1 with h1; injection h1 with h1 h3; subst h1; exact h, fun h => ⟨_, _, 0, fd68_1, sz2, h⟩⟩
@[go_sem ↓] theorem fk68_2 (K : Nat → Prop) : fdOK Try.prog 68 2 K = K 2 := propext ⟨fun ⟨o, ty, m, h1, h2, h⟩ => by rw [fd68_2] at h1; injection h1 with h1; injection h1 with h1 h3; subst h1; exact h, fun h => ⟨_, _, 0, fd68_2, sz22, h⟩⟩
@[go_sem] theorem bd68 (parts : List (Nat × SV)) (K : SV → Prop) : evBuild Try.prog zeroD 68 parts K = evFill [(0, 1), (1, 1), (2, 1)] (.acons (.int .i64 0) (.acons (.int .i64 0) (.acons .nils .anil))) true [] parts K := propext ⟨fun ⟨z, pl, h1, h2, h3, h⟩ => by rw [zd68] at h1; rw [pl68] at h3; injection h1 with h1; injection h3 with h3; subst h1; subst h3; exact h, fun h => ⟨_, _, zd68, rfl, pl68, h⟩⟩
@[go_sem] theorem lo87 (x : D) : loadOK Try.prog 87 x = (x.isAgg = false) := by
  unfold loadOK; rw [ag87]; cases h : x.isAgg <;> simp
@[go_sem] theorem al87 (K : SV → Option Ob → Prop) : evAlloc zeroD id 87 K = K (.bx id) (some (.var true [] .nils 87)) := propext ⟨fun ⟨z, h1, _, h⟩ => by rw [zd87] at h1; injection h1 with h1; subst h1; exact h, fun h => ⟨_, zd87, by decide, h⟩⟩
@[go_sem] theorem el87 (x : D) : elOK Try.prog 87 x = (x.sz = 1) := propext ⟨fun ⟨e, h1, h2⟩ => by rw [sl87] at h1; have h1 := Option.some.inj h1; subst h1; have h3 := (sz22).symm.trans h2; exact (Option.some.inj h3).symm, fun h => ⟨_, sl87, (sz22).trans (congrArg some h.symm)⟩⟩
@[go_sem] theorem mk87 (K : SV → Option Ob → Prop) : evMake Try.prog zeroD id 87 l c K = vInt l (hd (fun k n => vInt c (hd (fun _ m => k = .i64 ∧ n = m ∧ 0 ≤ n ∧ n ≤ 9223372036854775807 ∧ n * 24 ≤ 281474976710656 ∧ K (.own id 0) (some (.arr 0 true [] (.list n.toNat (fun _ => .nils)) 22 1))) .mk)) .mk) := by
  unfold evMake hd; congr 1; funext k n; congr 1; funext _ m
  refine propext ⟨fun ⟨a1, a2, a3, a4, e, z, b, h1, h2, _, h4, h5, h⟩ => ?_, fun ⟨a1, a2, a3, a4, h5, h⟩ => ⟨a1, a2, a3, a4, _, _, _, sl87, zd22, by decide, by22, h5, h⟩⟩
  rw [sl87] at h1; injection h1 with h1; subst h1; rw [zd22] at h2; injection h2 with h2; subst h2; rw [by22] at h4; injection h4 with h4; subst h4; exact ⟨a1, a2, a3, a4, h5, h⟩
@[go_sem] theorem ap87 (n m : Nat) (K : Nat → Nat → Prop) : appOK Try.prog zeroD 87 n m K = (n + m ≤ 134217728 ∧ K 22 1) := by
  refine propext ⟨fun ⟨e, z, b, h1, h2, _, h4, h5, h6, h⟩ => ?_, fun ⟨h6, h⟩ => ⟨_, _, _, sl87, zd22, by decide, by22, by decide, h6, h⟩⟩
  rw [sl87] at h1; injection h1 with h1; subst h1; rw [zd22] at h2; injection h2 with h2; subst h2; exact ⟨h6, h⟩
@[go_sem] theorem bs87 (len : Nat) (parts : List (Nat × SV)) (K : SV → Option Ob → Prop) : evBuildSlice Try.prog 87 len id parts K = (parts.length = len ∧ len * 1 ≤ 16777216 ∧ evElems 1 0 parts true [] [] (hd (fun pr re xs => K (.own id 0) (some (.arr 0 pr re (.list len (fun i => xs.getD i .anil)) 22 1))) .mk)) := by
  refine propext ⟨fun ⟨e, sz, h1, h2, h3, h4, h5, h⟩ => ?_, fun ⟨h4, h5, h⟩ => ⟨_, 0, sl87, sz22, fun h => by have := zn22; simp [h] at this, h4, h5, h⟩⟩
  rw [sl87] at h1; injection h1 with h1; subst h1; rw [sz22] at h2; injection h2 with h2; have : sz = 0 := by omega
  subst this; exact ⟨h4, h5, h⟩
@[go_sem] theorem lo89 (x : D) : loadOK Try.prog 89 x = (x.isAgg = true ∧ x.sz = 3) := by
  unfold loadOK; rw [ag89, sz89]; cases h : x.isAgg <;> simp [eq_comm]
@[go_sem] theorem al89 (K : SV → Option Ob → Prop) : evAlloc zeroD id 89 K = K (.bx id) (some (.var true [] (.acons .nils (.acons .nils (.acons .nils .anil))) 89)) := propext ⟨fun ⟨z, h1, _, h⟩ => by rw [zd89] at h1; injection h1 with h1; subst h1; exact h, fun h => ⟨_, zd89, by decide, h⟩⟩
@[go_sem ↓] theorem fk89_0 (K : Nat → Prop) : fdOK Try.prog 89 0 K = K 0 := propext ⟨fun ⟨o, ty, m, h1, h2, h⟩ => by rw [fd89_0] at h1; injection h1 with h1; injection h1 with h1 h3; subst h1; exact h, fun h => ⟨_, _, 0, fd89_0, sz40, h⟩⟩
@[go_sem ↓] theorem fk89_1 (K : Nat → Prop) : fdOK Try.prog 89 1 K = K 1 := propext ⟨fun ⟨o, ty, m, h1, h2, h⟩ => by rw [fd89_1] at h1; injection h1 with h1; injection h1 with h1 h3; subst h1; exact h, fun h => ⟨_, _, 0, fd89_1, sz87, h⟩⟩
@[go_sem ↓] theorem fk89_2 (K : Nat → Prop) : fdOK Try.prog 89 2 K = K 2 := propext ⟨fun ⟨o, ty, m, h1, h2, h⟩ => by rw [fd89_2] at h1; injection h1 with h1; injection h1 with h1 h3; subst h1; exact h, fun h => ⟨_, _, 0, fd89_2, sz63, h⟩⟩
@[go_sem] theorem bd89 (parts : List (Nat × SV)) (K : SV → Prop) : evBuild Try.prog zeroD 89 parts K = evFill [(0, 1), (1, 1), (2, 1)] (.acons .nils (.acons .nils (.acons .nils .anil))) true [] parts K := propext ⟨fun ⟨z, pl, h1, h2, h3, h⟩ => by rw [zd89] at h1; rw [pl89] at h3; injection h1 with h1; injection h3 with h3; subst h1; subst h3; exact h, fun h => ⟨_, _, zd89, rfl, pl89, h⟩⟩
@[go_sem] theorem lo90 (x : D) : loadOK Try.prog 90 x = (x.isAgg = true ∧ x.sz = 3) := by
  unfold loadOK; rw [ag90, sz90]; cases h : x.isAgg <;> simp [eq_comm]
@[go_sem] theorem al90 (K : SV → Option Ob → Prop) : evAlloc zeroD id 90 K = K (.bx id) (some (.var true [] (.acons .nils (.acons .nils (.acons .nils .anil))) 90)) := propext ⟨fun ⟨z, h1, _, h⟩ => by rw [zd90] at h1; injection h1 with h1; subst h1; exact h, fun h => ⟨_, zd90, by decide, h⟩⟩
@[go_sem ↓] theorem fk90_0 (K : Nat → Prop) : fdOK Try.prog 90 0 K = K 0 := propext ⟨fun ⟨o, ty, m, h1, h2, h⟩ => by rw [fd90_0] at h1; injection h1 with h1; injection h1 with h1 h3; subst h1; exact h, fun h => ⟨_, _, 0, fd90_0, sz40, h⟩⟩
@[go_sem ↓] theorem fk90_1 (K : Nat → Prop) : fdOK Try.prog 90 1 K = K 1 := propext ⟨fun ⟨o, ty, m, h1, h2, h⟩ => by rw [fd90_1] at h1; injection h1 with h1; injection h1 with h1 h3; subst h1; exact h, fun h => ⟨_, _, 0, fd90_1, sz87, h⟩⟩
@[go_sem ↓] theorem fk90_2 (K : Nat → Prop) : fdOK Try.prog 90 2 K = K 2 := propext ⟨fun ⟨o, ty, m, h1, h2, h⟩ => by rw [fd90_2] at h1; injection h1 with h1; injection h1 with h1 h3; subst h1; exact h, fun h => ⟨_, _, 0, fd90_2, sz63, h⟩⟩
@[go_sem] theorem bd90 (parts : List (Nat × SV)) (K : SV → Prop) : evBuild Try.prog zeroD 90 parts K = evFill [(0, 1), (1, 1), (2, 1)] (.acons .nils (.acons .nils (.acons .nils .anil))) true [] parts K := propext ⟨fun ⟨z, pl, h1, h2, h3, h⟩ => by rw [zd90] at h1; rw [pl90] at h3; injection h1 with h1; injection h3 with h3; subst h1; subst h3; exact h, fun h => ⟨_, _, zd90, rfl, pl90, h⟩⟩
@[go_sem] theorem lo96 (x : D) : loadOK Try.prog 96 x = (x.isAgg = false) := by
  unfold loadOK; rw [ag96]; cases h : x.isAgg <;> simp
@[go_sem] theorem al96 (K : SV → Option Ob → Prop) : evAlloc zeroD id 96 K = K (.bx id) (some (.var true [] .nils 96)) := propext ⟨fun ⟨z, h1, _, h⟩ => by rw [zd96] at h1; injection h1 with h1; subst h1; exact h, fun h => ⟨_, zd96, by decide, h⟩⟩
@[go_sem] theorem el96 (x : D) : elOK Try.prog 96 x = (x.sz = 1) := propext ⟨fun ⟨e, h1, h2⟩ => by rw [sl96] at h1; have h1 := Option.some.inj h1; subst h1; have h3 := (sz3).symm.trans h2; exact (Option.some.inj h3).symm, fun h => ⟨_, sl96, (sz3).trans (congrArg some h.symm)⟩⟩
@[go_sem] theorem mk96 (K : SV → Option Ob → Prop) : evMake Try.prog zeroD id 96 l c K = vInt l (hd (fun k n => vInt c (hd (fun _ m => k = .i64 ∧ n = m ∧ 0 ≤ n ∧ n ≤ 9223372036854775807 ∧ n * 8 ≤ 281474976710656 ∧ K (.own id 0) (some (.arr 0 true [] (.list n.toNat (fun _ => (.int .i64 0))) 3 1))) .mk)) .mk) := by
  unfold evMake hd; congr 1; funext k n; congr 1; funext _ m
  refine propext ⟨fun ⟨a1, a2, a3, a4, e, z, b, h1, h2, _, h4, h5, h⟩ => ?_, fun ⟨a1, a2, a3, a4, h5, h⟩ => ⟨a1, a2, a3, a4, _, _, _, sl96, zd3, by decide, by3, h5, h⟩⟩
  rw [sl96] at h1; injection h1 with h1; subst h1; rw [zd3] at h2; injection h2 with h2; subst h2; rw [by3] at h4; injection h4 with h4; subst h4; exact ⟨a1, a2, a3, a4, h5, h⟩
@[go_sem] theorem ap96 (n m : Nat) (K : Nat → Nat → Prop) : appOK Try.prog zeroD 96 n m K = (n + m ≤ 134217728 ∧ K 3 1) := by
  refine propext ⟨fun ⟨e, z, b, h1, h2, _, h4, h5, h6, h⟩ => ?_, fun ⟨h6, h⟩ => ⟨_, _, _, sl96, zd3, by decide, by3, by decide, h6, h⟩⟩
  rw [sl96] at h1; injection h1 with h1; subst h1; rw [zd3] at h2; injection h2 with h2; subst h2; exact ⟨h6, h⟩
@[go_sem] theorem bs96 (len : Nat) (parts : List (Nat × SV)) (K : SV → Option Ob → Prop) : evBuildSlice Try.prog 96 len id parts K = (parts.length = len ∧ len * 1 ≤ 16777216 ∧ evElems 1 0 parts true [] [] (hd (fun pr re xs => K (.own id 0) (some (.arr 0 pr re (.list len (fun i => xs.getD i .anil)) 3 1))) .mk)) := by
  refine propext ⟨fun ⟨e, sz, h1, h2, h3, h4, h5, h⟩ => ?_, fun ⟨h4, h5, h⟩ => ⟨_, 0, sl96, sz3, fun h => by have := zn3; simp [h] at this, h4, h5, h⟩⟩
  rw [sl96] at h1; injection h1 with h1; subst h1; rw [sz3] at h2; injection h2 with h2; have : sz = 0 := by omega
  subst this; exact ⟨h4, h5, h⟩
@[go_sem] theorem lo97 (x : D) : loadOK Try.prog 97 x = (x.isAgg = false) := by
  unfold loadOK; rw [ag97]; cases h : x.isAgg <;> simp
@[go_sem] theorem al97 (K : SV → Option Ob → Prop) : evAlloc zeroD id 97 K = K (.bx id) (some (.var true [] .nils 97)) := propext ⟨fun ⟨z, h1, _, h⟩ => by rw [zd97] at h1; injection h1 with h1; subst h1; exact h, fun h => ⟨_, zd97, by decide, h⟩⟩
@[go_sem] theorem el97 (x : D) : elOK Try.prog 97 x = (x.sz = 1) := propext ⟨fun ⟨e, h1, h2⟩ => by rw [sl97] at h1; have h1 := Option.some.inj h1; subst h1; have h3 := (sz5).symm.trans h2; exact (Option.some.inj h3).symm, fun h => ⟨_, sl97, (sz5).trans (congrArg some h.symm)⟩⟩
@[go_sem] theorem mk97 (K : SV → Option Ob → Prop) : evMake Try.prog zeroD id 97 l c K = vInt l (hd (fun k n => vInt c (hd (fun _ m => k = .i64 ∧ n = m ∧ 0 ≤ n ∧ n ≤ 9223372036854775807 ∧ n * 1 ≤ 281474976710656 ∧ K (.own id 0) (some (.arr 0 true [] (.list n.toNat (fun _ => (.int .u8 0))) 5 1))) .mk)) .mk) := by
  unfold evMake hd; congr 1; funext k n; congr 1; funext _ m
  refine propext ⟨fun ⟨a1, a2, a3, a4, e, z, b, h1, h2, _, h4, h5, h⟩ => ?_, fun ⟨a1, a2, a3, a4, h5, h⟩ => ⟨a1, a2, a3, a4, _, _, _, sl97, zd5, by decide, by5, h5, h⟩⟩
  rw [sl97] at h1; injection h1 with h1; subst h1; rw [zd5] at h2; injection h2 with h2; subst h2; rw [by5] at h4; injection h4 with h4; subst h4; exact ⟨a1, a2, a3, a4, h5, h⟩
@[go_sem] theorem ap97 (n m : Nat) (K : Nat → Nat → Prop) : appOK Try.prog zeroD 97 n m K = (n + m ≤ 134217728 ∧ K 5 1) := by
  refine propext ⟨fun ⟨e, z, b, h1, h2, _, h4, h5, h6, h⟩ => ?_, fun ⟨h6, h⟩ => ⟨_, _, _, sl97, zd5, by decide, by5, by decide, h6, h⟩⟩
  rw [sl97] at h1; injection h1 with h1; subst h1; rw [zd5] at h2; injection h2 with h2; subst h2; exact ⟨h6, h⟩
@[go_sem] theorem bs97 (len : Nat) (parts : List (Nat × SV)) (K : SV → Option Ob → Prop) : evBuildSlice Try.prog 97 len id parts K = (parts.length = len ∧ len * 1 ≤ 16777216 ∧ evElems 1 0 parts true [] [] (hd (fun pr re xs => K (.own id 0) (some (.arr 0 pr re (.list len (fun i => xs.getD i .anil)) 5 1))) .mk)) := by
  refine propext ⟨fun ⟨e, sz, h1, h2, h3, h4, h5, h⟩ => ?_, fun ⟨h4, h5, h⟩ => ⟨_, 0, sl97, sz5, fun h => by have := zn5; simp [h] at this, h4, h5, h⟩⟩
  rw [sl97] at h1; injection h1 with h1; subst h1; rw [sz5] at h2; injection h2 with h2; have : sz = 0 := by omega
  subst this; exact ⟨h4, h5, h⟩
@[go_sem] theorem lo99 (x : D) : loadOK Try.prog 99 x = (x.isAgg = false) := by
  unfold loadOK; rw [ag99]; cases h : x.isAgg <;> simp
@[go_sem] theorem al99 (K : SV → Option Ob → Prop) : evAlloc zeroD id 99 K = K (.bx id) (some (.var true [] (.int .u64 0) 99)) := propext ⟨fun ⟨z, h1, _, h⟩ => by rw [zd99] at h1; injection h1 with h1; subst h1; exact h, fun h => ⟨_, zd99, by decide, h⟩⟩
@[go_sem] theorem lo102 (x : D) : loadOK Try.prog 102 x = (x.isAgg = false) := by
  unfold loadOK; rw [ag102]; cases h : x.isAgg <;> simp
@[go_sem] theorem al102 (K : SV → Option Ob → Prop) : evAlloc zeroD id 102 K = K (.bx id) (some (.var true [] (.int .u32 0) 102)) := propext ⟨fun ⟨z, h1, _, h⟩ => by rw [zd102] at h1; injection h1 with h1; subst h1; exact h, fun h => ⟨_, zd102, by decide, h⟩⟩
@[go_sem] theorem lo105 (x : D) : loadOK Try.prog 105 x = (x.isAgg = false) := by
  unfold loadOK; rw [ag105]; cases h : x.isAgg <;> simp
@[go_sem] theorem al105 (K : SV → Option Ob → Prop) : evAlloc zeroD id 105 K = K (.bx id) (some (.var true [] (.int .u64 0) 105)) := propext ⟨fun ⟨z, h1, _, h⟩ => by rw [zd105] at h1; injection h1 with h1; subst h1; exact h, fun h => ⟨_, zd105, by decide, h⟩⟩
end

end Go.Proofs.Ytomhkcemkapmpaa
