/-
  NARROWER THAN 'FOR EVERY INPUT', by the rows' own cells (each row's printed sentence says how): GatesKleene: loops · GatesSay: loops.
  DERIVED. THE GIVEN ROWS OF THIS SEAT. 3 by the template 'for every input the law returns true; each argument reads behind the call as it read before'; 0 by the template 'total and deterministic' (their statements: YtbjadcanfngijaaTotals.lean).
  GIVEN WITH THE SEED: the statements are not yours to turn. If you find one false, say at which input.
  Laid BY PROGRAM, IN A SANDBOX (cutbox-rows.mjs): the forced cells as the released guide's own fill.sh prints them over the translation 02e2b5303dcca7ca… (all of the seat's roots in one cut). By AI agents, Wed Nov 11 2026. No macro, syntax, notation, axiom, sorry.
-/
import Derived.Test.YtbjadcanfngijaaChecked
import GoSem.Claim
import GoSem.ClaimJoined
import GoSem.ClaimMapViews
import Derived.JoinedTies
import Derived.KernelRfl
namespace Go.Proofs.Ytbjadcanfngijaa
/- THE CELL 'sum', in the pinned program and in every row, IS THE sha256 OF THE DUMP (.gsa) THAT YtbjadcanfngijaaProg.lean LOADS. Nothing in Lean hashes anything: it is a label: what it is worth is what the hold of that sum in a sandbox is worth. -/
noncomputable def Try.pinned : Pinned := { name := "ytbjadcanfngijaa", sum := "02e2b5303dcca7cacc113e77ad412cd5c2567dad569dfde0cdb30ee2ef5b83db", checked := Try.checked }
namespace Rows
def none {H : Type} : Left H := { results := [], args := [] }

/-- 'voltaiclaw.Names': WHATEVER THE INPUT: true; the input reads as it did. -/
def namesSpec : ChangeSpec := { name := "names", fn := fun _ => fun
  | [] => { results := [.lit (.bool true)], args := [] }
  | _ => none }
def namesRow : OpenClaim := { program := "ytbjadcanfngijaa", sum := "02e2b5303dcca7cacc113e77ad412cd5c2567dad569dfde0cdb30ee2ef5b83db", func := "voltaic/voltaiclaw.Names", spec := "names", apart := false }
def NamesSaid : Prop := namesRow.holds Try.pinned (OpenSpec.ofChange namesSpec)

/-- ITS FALSE NEIGHBOUR: 'it returns false'. Refute it at one input. -/
def namesWrong : ChangeSpec := { name := "names", fn := fun _ => fun
  | [] => { results := [.lit (.bool false)], args := [] }
  | _ => none }
def NamesWrongFalsely : Prop := namesRow.holds Try.pinned (OpenSpec.ofChange namesWrong)

/-- 'voltaiclaw.GatesKleene': WHATEVER THE INPUT: true; the input reads as it did. -/
def gatesKleeneSpec : ChangeSpec := { name := "gatesKleene", fn := fun _ => fun
  | [d1, d2] => { results := [.lit (.bool true)], args := [d1, d2] }
  | _ => none }
def gatesKleeneRow : OpenClaim := { program := "ytbjadcanfngijaa", sum := "02e2b5303dcca7cacc113e77ad412cd5c2567dad569dfde0cdb30ee2ef5b83db", func := "voltaic/voltaiclaw.GatesKleene", spec := "gatesKleene", recurses := true, loops := true, apart := false }
def GatesKleeneSaid : Prop := gatesKleeneRow.holds Try.pinned (OpenSpec.ofChange gatesKleeneSpec)

/-- ITS FALSE NEIGHBOUR: 'it returns false'. Refute it at one input. -/
def gatesKleeneWrong : ChangeSpec := { name := "gatesKleene", fn := fun _ => fun
  | [d1, d2] => { results := [.lit (.bool false)], args := [d1, d2] }
  | _ => none }
def GatesKleeneWrongFalsely : Prop := gatesKleeneRow.holds Try.pinned (OpenSpec.ofChange gatesKleeneWrong)

/-- 'voltaiclaw.GatesSay': WHATEVER THE INPUT: true; the input reads as it did. -/
def gatesSaySpec : ChangeSpec := { name := "gatesSay", fn := fun _ => fun
  | [d1, d2, d3] => { results := [.lit (.bool true)], args := [d1, d2, d3] }
  | _ => none }
def gatesSayRow : OpenClaim := { program := "ytbjadcanfngijaa", sum := "02e2b5303dcca7cacc113e77ad412cd5c2567dad569dfde0cdb30ee2ef5b83db", func := "voltaic/voltaiclaw.GatesSay", spec := "gatesSay", unfollowed := true, recurses := true, loops := true, apart := false }
def GatesSaySaid : Prop := gatesSayRow.holds Try.pinned (OpenSpec.ofChange gatesSaySpec)

/-- ITS FALSE NEIGHBOUR: 'it returns false'. Refute it at one input. -/
def gatesSayWrong : ChangeSpec := { name := "gatesSay", fn := fun _ => fun
  | [d1, d2, d3] => { results := [.lit (.bool false)], args := [d1, d2, d3] }
  | _ => none }
def GatesSayWrongFalsely : Prop := gatesSayRow.holds Try.pinned (OpenSpec.ofChange gatesSayWrong)

/- THE SECOND FORM. 'bulk': how many values and letters a reading holds, each counted each time it is reached (what is shared counts as often as it is met; a slice's spare places count too). A statement '..UptoSaid' is the law's where the arguments, and the package variables that the reading takes, are together of bulk at most 1048576: NARROWER than '..Said'. Prove '..Said' where nothing that the law and all that it calls make is longer than what came in: it says more and counts as full. Else prove '..UptoSaid'. A law counts once. -/
mutual
def uptoBulk {H : Type} : DataW H → Nat
  | .lit (.string bytes) => bytes.length + 1
  | .lit _ => 1
  | .nil => 1
  | .ptr d => uptoBulk d + 1
  | .slice elems spare => uptoBulkAll elems + uptoBulkAll spare + 1
  | .agg parts => uptoBulkAll parts + 1
  | .iface _ d => uptoBulk d + 1
  | .map entries => uptoBulkEntries entries + 1
  | .held _ => 1
def uptoBulkAll {H : Type} : List (DataW H) → Nat
  | [] => 0
  | d :: r => uptoBulk d + uptoBulkAll r
def uptoBulkEntries {H : Type} : List (Lit × DataW H) → Nat
  | [] => 0
  | x :: r => uptoBulkEntry x + uptoBulkEntries r
def uptoBulkEntry {H : Type} : Lit × DataW H → Nat
  | (.string bytes, d) => bytes.length + uptoBulk d + 1
  | (_, d) => uptoBulk d + 1
 end
def uptoSmall : (H : Type) → List (DataW H) → Bool := fun _ ds => decide (uptoBulkAll ds ≤ 1048576)
def OpenSpec.upto (s : _root_.Go.ChangeSpec) : _root_.Go.OpenSpec := { _root_.Go.OpenSpec.ofChange s with cond := some uptoSmall }

/-- 'voltaiclaw.Names', WHERE WHAT IT READS IS OF BULK AT MOST 1048576: true; the input reads as it did. -/
def namesUptoRow : OpenClaim := { program := "ytbjadcanfngijaa", sum := "02e2b5303dcca7cacc113e77ad412cd5c2567dad569dfde0cdb30ee2ef5b83db", func := "voltaic/voltaiclaw.Names", spec := "names", apart := false, narrowed := true }
def NamesUptoSaid : Prop := namesUptoRow.holds Try.pinned (OpenSpec.upto namesSpec)

/-- 'voltaiclaw.GatesKleene', WHERE WHAT IT READS IS OF BULK AT MOST 1048576: true; the input reads as it did. -/
def gatesKleeneUptoRow : OpenClaim := { program := "ytbjadcanfngijaa", sum := "02e2b5303dcca7cacc113e77ad412cd5c2567dad569dfde0cdb30ee2ef5b83db", func := "voltaic/voltaiclaw.GatesKleene", spec := "gatesKleene", recurses := true, loops := true, apart := false, narrowed := true }
def GatesKleeneUptoSaid : Prop := gatesKleeneUptoRow.holds Try.pinned (OpenSpec.upto gatesKleeneSpec)

/-- 'voltaiclaw.GatesSay', WHERE WHAT IT READS IS OF BULK AT MOST 1048576: true; the input reads as it did. -/
def gatesSayUptoRow : OpenClaim := { program := "ytbjadcanfngijaa", sum := "02e2b5303dcca7cacc113e77ad412cd5c2567dad569dfde0cdb30ee2ef5b83db", func := "voltaic/voltaiclaw.GatesSay", spec := "gatesSay", unfollowed := true, recurses := true, loops := true, apart := false, narrowed := true }
def GatesSayUptoSaid : Prop := gatesSayUptoRow.holds Try.pinned (OpenSpec.upto gatesSaySpec)

end Rows
end Go.Proofs.Ytbjadcanfngijaa
