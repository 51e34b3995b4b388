/-
  NARROWER THAN 'FOR EVERY INPUT', by the rows' own cells (each row's printed sentence says how): QueryKnown: laid.
  DERIVED. THE GIVEN ROWS OF THIS SEAT. 1 by the template 'for every input the law returns true; each argument reads behind the call as it read before'; 0 by the template 'total and deterministic' (their statements: YtpikdkimdofpkaaGreatDoorTotals.lean).
  GIVEN WITH THE SEED: the statements are not yours to turn. If you find one false, say at which input.
  Laid BY PROGRAM, IN A SANDBOX (cutbox-rows.mjs): the forced cells as the released guide's own fill.sh prints them over the translation 93f6e7ae4455dcdd… (all of the seat's roots in one cut). By AI agents, Wed Nov 11 2026. No macro, syntax, notation, axiom, sorry.
-/
import Derived.Test.YtpikdkimdofpkaaGreatDoorChecked
import GoSem.Claim
import GoSem.ClaimJoined
import GoSem.ClaimMapViews
import Derived.JoinedTies
import Derived.KernelRfl
namespace Go.Proofs.YtpikdkimdofpkaaGreatDoor
/- THE CELL 'sum', in the pinned program and in every row, IS THE sha256 OF THE DUMP (.gsa) THAT YtpikdkimdofpkaaGreatDoorProg.lean LOADS. Nothing in Lean hashes anything: it is a label: what it is worth is what the hold of that sum in a sandbox is worth. -/
noncomputable def Tryz.pinned : Pinned := { name := "ytpikdkimdofpkaagreatdoor", sum := "93f6e7ae4455dcddbb9c146473da76e5d3b5eb4854ff69d85c899ce6cd2efcc1", checked := Tryz.checked }
namespace Rows
def none {H : Type} : Left H := { results := [], args := [] }

/- WHAT THE LISTED PACKAGE-LEVEL VARIABLES READ AS WHEN THE CALL BEGINS. Each datum BY PROGRAM (the guide's laid-datum.mjs) off the statement by which the dump's own 'gosem.cut.vars' lays the variable. In a bare row this is a premise. The card (YtpikdkimdofpkaaGreatDoorCards.lean) ties it to the program's text. -/
def laid_partywall_ast_names {H : Type} : DataW H := .agg [.lit (.string [99, 111, 117, 110, 116]), .lit (.string [115, 117, 109]), .lit (.string [109, 105, 110]), .lit (.string [109, 97, 120]), .lit (.string [102, 105, 114, 115, 116]), .lit (.string [108, 97, 115, 116])]

/-- 'partywalllaw30.QueryKnown': WHATEVER THE INPUT: true; the input reads as it did. -/
def queryKnownSpec : ChangeSpec := { name := "queryKnown", fn := fun _ => fun
  | [] => { results := [.lit (.bool true)], args := [] }
  | _ => none }
def queryKnownRow : OpenClaim := { program := "ytpikdkimdofpkaagreatdoor", sum := "93f6e7ae4455dcddbb9c146473da76e5d3b5eb4854ff69d85c899ce6cd2efcc1", func := "partywall/partywalllaw30.QueryKnown", spec := "queryKnown", unfollowed := true, recurses := true, named := ["partywall/ast.names"], plainKeys := false, apart := false, laid := [("partywall/ast.names", laid_partywall_ast_names)] }
def QueryKnownSaid : Prop := queryKnownRow.holds Tryz.pinned (OpenSpec.ofChange queryKnownSpec)

/-- ITS FALSE NEIGHBOUR: 'it returns false'. Refute it at one input. -/
def queryKnownWrong : ChangeSpec := { name := "queryKnown", fn := fun _ => fun
  | [] => { results := [.lit (.bool false)], args := [] }
  | _ => none }
def QueryKnownWrongFalsely : Prop := queryKnownRow.holds Tryz.pinned (OpenSpec.ofChange queryKnownWrong)

/- THE SECOND FORM. 'bulk': how many values and letters a reading holds, each counted each time it is reached (what is shared counts as often as it is met; a slice's spare places count too). A statement '..UptoSaid' is the law's where the arguments, and the package variables that the reading takes, are together of bulk at most 1048576: NARROWER than '..Said'. Prove '..Said' where nothing that the law and all that it calls make is longer than what came in: it says more and counts as full. Else prove '..UptoSaid'. A law counts once. -/
mutual
def uptoBulk {H : Type} : DataW H → Nat
  | .lit (.string bytes) => bytes.length + 1
  | .lit _ => 1
  | .nil => 1
  | .ptr d => uptoBulk d + 1
  | .slice elems spare => uptoBulkAll elems + uptoBulkAll spare + 1
  | .agg parts => uptoBulkAll parts + 1
  | .iface _ d => uptoBulk d + 1
  | .map entries => uptoBulkEntries entries + 1
  | .held _ => 1
def uptoBulkAll {H : Type} : List (DataW H) → Nat
  | [] => 0
  | d :: r => uptoBulk d + uptoBulkAll r
def uptoBulkEntries {H : Type} : List (Lit × DataW H) → Nat
  | [] => 0
  | x :: r => uptoBulkEntry x + uptoBulkEntries r
def uptoBulkEntry {H : Type} : Lit × DataW H → Nat
  | (.string bytes, d) => bytes.length + uptoBulk d + 1
  | (_, d) => uptoBulk d + 1
 end
def uptoSmall : (H : Type) → List (DataW H) → Bool := fun _ ds => decide (uptoBulkAll ds ≤ 1048576)
def OpenSpec.upto (s : _root_.Go.ChangeSpec) : _root_.Go.OpenSpec := { _root_.Go.OpenSpec.ofChange s with cond := some uptoSmall }

/-- 'partywalllaw30.QueryKnown', WHERE WHAT IT READS IS OF BULK AT MOST 1048576: true; the input reads as it did. -/
def queryKnownUptoRow : OpenClaim := { program := "ytpikdkimdofpkaagreatdoor", sum := "93f6e7ae4455dcddbb9c146473da76e5d3b5eb4854ff69d85c899ce6cd2efcc1", func := "partywall/partywalllaw30.QueryKnown", spec := "queryKnown", unfollowed := true, recurses := true, named := ["partywall/ast.names"], plainKeys := false, apart := false, laid := [("partywall/ast.names", laid_partywall_ast_names)], narrowed := true }
def QueryKnownUptoSaid : Prop := queryKnownUptoRow.holds Tryz.pinned (OpenSpec.upto queryKnownSpec)

end Rows
end Go.Proofs.YtpikdkimdofpkaaGreatDoor
