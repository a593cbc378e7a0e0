/-
  No cell of these rows narrows 'for every input' (looked for: loops, veiled, ifaces, maps, wideKeys, modest, calm, conditions, laid).
  DERIVED. THE GIVEN ROWS OF THIS SEAT. 3 by the template 'for every input the law returns true; each argument reads behind the call as it read before'; 0 by the template 'total and deterministic' (their statements: YtomhkcemkapmpaaTotals.lean).
  GIVEN WITH THE SEED: the statements are not yours to turn. If you find one false, say at which input.
  Laid BY PROGRAM, IN A SANDBOX (cutbox-rows.mjs): the forced cells as the released guide's own fill.sh prints them over the translation f5cdee9c30b0cc78… (all of the seat's roots in one cut). By AI agents, Wed Nov 11 2026. No macro, syntax, notation, axiom, sorry.
-/
import Derived.Test.YtomhkcemkapmpaaChecked
import GoSem.Claim
import GoSem.ClaimJoined
import GoSem.ClaimMapViews
import Derived.JoinedTies
import Derived.KernelRfl
namespace Go.Proofs.Ytomhkcemkapmpaa
/- THE CELL 'sum', in the pinned program and in every row, IS THE sha256 OF THE DUMP (.gsa) THAT YtomhkcemkapmpaaProg.lean LOADS. Nothing in Lean hashes anything: it is a label: what it is worth is what the hold of that sum in a sandbox is worth. -/
noncomputable def Try.pinned : Pinned := { name := "ytomhkcemkapmpaa", sum := "f5cdee9c30b0cc78588291bc752f422883296f6ed96b45009bebdc1640c61c2b", checked := Try.checked }
namespace Rows
def none {H : Type} : Left H := { results := [], args := [] }

/-- 'laws.FnExactComparePoints': WHATEVER THE INPUT: true; the input reads as it did. -/
def fnExactComparePointsSpec : ChangeSpec := { name := "fnExactComparePoints", fn := fun _ => fun
  | [d1, d2] => { results := [.lit (.bool true)], args := [d1, d2] }
  | _ => none }
def fnExactComparePointsRow : OpenClaim := { program := "ytomhkcemkapmpaa", sum := "f5cdee9c30b0cc78588291bc752f422883296f6ed96b45009bebdc1640c61c2b", func := "loop.example/g01075/laws.FnExactComparePoints", spec := "fnExactComparePoints", apart := false }
def FnExactComparePointsSaid : Prop := fnExactComparePointsRow.holds Try.pinned (OpenSpec.ofChange fnExactComparePointsSpec)

/-- ITS FALSE NEIGHBOUR: 'it returns false'. Refute it at one input. -/
def fnExactComparePointsWrong : ChangeSpec := { name := "fnExactComparePoints", fn := fun _ => fun
  | [d1, d2] => { results := [.lit (.bool false)], args := [d1, d2] }
  | _ => none }
def FnExactComparePointsWrongFalsely : Prop := fnExactComparePointsRow.holds Try.pinned (OpenSpec.ofChange fnExactComparePointsWrong)

/-- 'laws.FnExactReduceTests': WHATEVER THE INPUT: true; the input reads as it did. -/
def fnExactReduceTestsSpec : ChangeSpec := { name := "fnExactReduceTests", fn := fun _ => fun
  | [d] => { results := [.lit (.bool true)], args := [d] }
  | _ => none }
def fnExactReduceTestsRow : OpenClaim := { program := "ytomhkcemkapmpaa", sum := "f5cdee9c30b0cc78588291bc752f422883296f6ed96b45009bebdc1640c61c2b", func := "loop.example/g01075/laws.FnExactReduceTests", spec := "fnExactReduceTests", unfollowed := true, recurses := true, apart := false }
def FnExactReduceTestsSaid : Prop := fnExactReduceTestsRow.holds Try.pinned (OpenSpec.ofChange fnExactReduceTestsSpec)

/-- ITS FALSE NEIGHBOUR: 'it returns false'. Refute it at one input. -/
def fnExactReduceTestsWrong : ChangeSpec := { name := "fnExactReduceTests", fn := fun _ => fun
  | [d] => { results := [.lit (.bool false)], args := [d] }
  | _ => none }
def FnExactReduceTestsWrongFalsely : Prop := fnExactReduceTestsRow.holds Try.pinned (OpenSpec.ofChange fnExactReduceTestsWrong)

/-- 'laws.FnExactAttractorOf': WHATEVER THE INPUT: true; the input reads as it did. -/
def fnExactAttractorOfSpec : ChangeSpec := { name := "fnExactAttractorOf", fn := fun _ => fun
  | [d1, d2, d3] => { results := [.lit (.bool true)], args := [d1, d2, d3] }
  | _ => none }
def fnExactAttractorOfRow : OpenClaim := { program := "ytomhkcemkapmpaa", sum := "f5cdee9c30b0cc78588291bc752f422883296f6ed96b45009bebdc1640c61c2b", func := "loop.example/g01075/laws.FnExactAttractorOf", spec := "fnExactAttractorOf", unfollowed := true, recurses := true, apart := false }
def FnExactAttractorOfSaid : Prop := fnExactAttractorOfRow.holds Try.pinned (OpenSpec.ofChange fnExactAttractorOfSpec)

/-- ITS FALSE NEIGHBOUR: 'it returns false'. Refute it at one input. -/
def fnExactAttractorOfWrong : ChangeSpec := { name := "fnExactAttractorOf", fn := fun _ => fun
  | [d1, d2, d3] => { results := [.lit (.bool false)], args := [d1, d2, d3] }
  | _ => none }
def FnExactAttractorOfWrongFalsely : Prop := fnExactAttractorOfRow.holds Try.pinned (OpenSpec.ofChange fnExactAttractorOfWrong)

/- THE SECOND FORM. 'bulk': how many values and letters a reading holds, each counted each time it is reached (what is shared counts as often as it is met; a slice's spare places count too). A statement '..UptoSaid' is the law's where the arguments, and the package variables that the reading takes, are together of bulk at most 1048576: NARROWER than '..Said'. Prove '..Said' where nothing that the law and all that it calls make is longer than what came in: it says more and counts as full. Else prove '..UptoSaid'. A law counts once. -/
mutual
def uptoBulk {H : Type} : DataW H → Nat
  | .lit (.string bytes) => bytes.length + 1
  | .lit _ => 1
  | .nil => 1
  | .ptr d => uptoBulk d + 1
  | .slice elems spare => uptoBulkAll elems + uptoBulkAll spare + 1
  | .agg parts => uptoBulkAll parts + 1
  | .iface _ d => uptoBulk d + 1
  | .map entries => uptoBulkEntries entries + 1
  | .held _ => 1
def uptoBulkAll {H : Type} : List (DataW H) → Nat
  | [] => 0
  | d :: r => uptoBulk d + uptoBulkAll r
def uptoBulkEntries {H : Type} : List (Lit × DataW H) → Nat
  | [] => 0
  | x :: r => uptoBulkEntry x + uptoBulkEntries r
def uptoBulkEntry {H : Type} : Lit × DataW H → Nat
  | (.string bytes, d) => bytes.length + uptoBulk d + 1
  | (_, d) => uptoBulk d + 1
 end
def uptoSmall : (H : Type) → List (DataW H) → Bool := fun _ ds => decide (uptoBulkAll ds ≤ 1048576)
def OpenSpec.upto (s : _root_.Go.ChangeSpec) : _root_.Go.OpenSpec := { _root_.Go.OpenSpec.ofChange s with cond := some uptoSmall }

/-- 'laws.FnExactComparePoints', WHERE WHAT IT READS IS OF BULK AT MOST 1048576: true; the input reads as it did. -/
def fnExactComparePointsUptoRow : OpenClaim := { program := "ytomhkcemkapmpaa", sum := "f5cdee9c30b0cc78588291bc752f422883296f6ed96b45009bebdc1640c61c2b", func := "loop.example/g01075/laws.FnExactComparePoints", spec := "fnExactComparePoints", apart := false, narrowed := true }
def FnExactComparePointsUptoSaid : Prop := fnExactComparePointsUptoRow.holds Try.pinned (OpenSpec.upto fnExactComparePointsSpec)

/-- 'laws.FnExactReduceTests', WHERE WHAT IT READS IS OF BULK AT MOST 1048576: true; the input reads as it did. -/
def fnExactReduceTestsUptoRow : OpenClaim := { program := "ytomhkcemkapmpaa", sum := "f5cdee9c30b0cc78588291bc752f422883296f6ed96b45009bebdc1640c61c2b", func := "loop.example/g01075/laws.FnExactReduceTests", spec := "fnExactReduceTests", unfollowed := true, recurses := true, apart := false, narrowed := true }
def FnExactReduceTestsUptoSaid : Prop := fnExactReduceTestsUptoRow.holds Try.pinned (OpenSpec.upto fnExactReduceTestsSpec)

/-- 'laws.FnExactAttractorOf', WHERE WHAT IT READS IS OF BULK AT MOST 1048576: true; the input reads as it did. -/
def fnExactAttractorOfUptoRow : OpenClaim := { program := "ytomhkcemkapmpaa", sum := "f5cdee9c30b0cc78588291bc752f422883296f6ed96b45009bebdc1640c61c2b", func := "loop.example/g01075/laws.FnExactAttractorOf", spec := "fnExactAttractorOf", unfollowed := true, recurses := true, apart := false, narrowed := true }
def FnExactAttractorOfUptoSaid : Prop := fnExactAttractorOfUptoRow.holds Try.pinned (OpenSpec.upto fnExactAttractorOfSpec)

end Rows
end Go.Proofs.Ytomhkcemkapmpaa
