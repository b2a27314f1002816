/-
  No cell of these rows narrows 'for every input' (looked for: loops, veiled, ifaces, maps, wideKeys, modest, calm, conditions, laid).
  DERIVED. THE GIVEN ROWS OF THIS SEAT. 7 by the template 'for every input the law returns true; each argument reads behind the call as it read before'; 0 by the template 'total and deterministic' (their statements: YthkeghhbgbbfdaaTotals.lean).
  GIVEN WITH THE SEED: the statements are not yours to turn. If you find one false, say at which input.
  Laid BY PROGRAM, IN A SANDBOX (cutbox-rows.mjs): the forced cells as the released guide's own fill.sh prints them over the translation a223f08de9222697… (all of the seat's roots in one cut). By AI agents, Wed Nov 11 2026. No macro, syntax, notation, axiom, sorry.
-/
import Derived.Test.YthkeghhbgbbfdaaChecked
import GoSem.Claim
import GoSem.ClaimJoined
import GoSem.ClaimMapViews
import Derived.JoinedTies
import Derived.KernelRfl
namespace Go.Proofs.Ythkeghhbgbbfdaa
/- THE CELL 'sum', in the pinned program and in every row, IS THE sha256 OF THE DUMP (.gsa) THAT YthkeghhbgbbfdaaProg.lean LOADS. Nothing in Lean hashes anything: it is a label: what it is worth is what the hold of that sum in a sandbox is worth. -/
noncomputable def Try.pinned : Pinned := { name := "ythkeghhbgbbfdaa", sum := "a223f08de9222697c5c7b4eb0ee3199390e29c3709a1ef29daa0b8c705e67c5b", checked := Try.checked }
namespace Rows
def none {H : Type} : Left H := { results := [], args := [] }

/-- 'pawnshoplaw01.NumberCodes': WHATEVER THE INPUT: true; the input reads as it did. -/
def numberCodesSpec : ChangeSpec := { name := "numberCodes", fn := fun _ => fun
  | [d1, d2, d3] => { results := [.lit (.bool true)], args := [d1, d2, d3] }
  | _ => none }
def numberCodesRow : OpenClaim := { program := "ythkeghhbgbbfdaa", sum := "a223f08de9222697c5c7b4eb0ee3199390e29c3709a1ef29daa0b8c705e67c5b", func := "pawnshop/pawnshoplaw01.NumberCodes", spec := "numberCodes", apart := false }
def NumberCodesSaid : Prop := numberCodesRow.holds Try.pinned (OpenSpec.ofChange numberCodesSpec)

/-- ITS FALSE NEIGHBOUR: 'it returns false'. Refute it at one input. -/
def numberCodesWrong : ChangeSpec := { name := "numberCodes", fn := fun _ => fun
  | [d1, d2, d3] => { results := [.lit (.bool false)], args := [d1, d2, d3] }
  | _ => none }
def NumberCodesWrongFalsely : Prop := numberCodesRow.holds Try.pinned (OpenSpec.ofChange numberCodesWrong)

/-- 'pawnshoplaw01.NumberOnce': WHATEVER THE INPUT: true; the input reads as it did. -/
def numberOnceSpec : ChangeSpec := { name := "numberOnce", fn := fun _ => fun
  | [d1, d2] => { results := [.lit (.bool true)], args := [d1, d2] }
  | _ => none }
def numberOnceRow : OpenClaim := { program := "ythkeghhbgbbfdaa", sum := "a223f08de9222697c5c7b4eb0ee3199390e29c3709a1ef29daa0b8c705e67c5b", func := "pawnshop/pawnshoplaw01.NumberOnce", spec := "numberOnce", apart := false }
def NumberOnceSaid : Prop := numberOnceRow.holds Try.pinned (OpenSpec.ofChange numberOnceSpec)

/-- ITS FALSE NEIGHBOUR: 'it returns false'. Refute it at one input. -/
def numberOnceWrong : ChangeSpec := { name := "numberOnce", fn := fun _ => fun
  | [d1, d2] => { results := [.lit (.bool false)], args := [d1, d2] }
  | _ => none }
def NumberOnceWrongFalsely : Prop := numberOnceRow.holds Try.pinned (OpenSpec.ofChange numberOnceWrong)

/-- 'pawnshoplaw01.NumberOrder': WHATEVER THE INPUT: true; the input reads as it did. -/
def numberOrderSpec : ChangeSpec := { name := "numberOrder", fn := fun _ => fun
  | [d1, d2] => { results := [.lit (.bool true)], args := [d1, d2] }
  | _ => none }
def numberOrderRow : OpenClaim := { program := "ythkeghhbgbbfdaa", sum := "a223f08de9222697c5c7b4eb0ee3199390e29c3709a1ef29daa0b8c705e67c5b", func := "pawnshop/pawnshoplaw01.NumberOrder", spec := "numberOrder", apart := false }
def NumberOrderSaid : Prop := numberOrderRow.holds Try.pinned (OpenSpec.ofChange numberOrderSpec)

/-- ITS FALSE NEIGHBOUR: 'it returns false'. Refute it at one input. -/
def numberOrderWrong : ChangeSpec := { name := "numberOrder", fn := fun _ => fun
  | [d1, d2] => { results := [.lit (.bool false)], args := [d1, d2] }
  | _ => none }
def NumberOrderWrongFalsely : Prop := numberOrderRow.holds Try.pinned (OpenSpec.ofChange numberOrderWrong)

/-- 'pawnshoplaw01.NumberDigits': WHATEVER THE INPUT: true; the input reads as it did. -/
def numberDigitsSpec : ChangeSpec := { name := "numberDigits", fn := fun _ => fun
  | [d] => { results := [.lit (.bool true)], args := [d] }
  | _ => none }
def numberDigitsRow : OpenClaim := { program := "ythkeghhbgbbfdaa", sum := "a223f08de9222697c5c7b4eb0ee3199390e29c3709a1ef29daa0b8c705e67c5b", func := "pawnshop/pawnshoplaw01.NumberDigits", spec := "numberDigits", apart := false }
def NumberDigitsSaid : Prop := numberDigitsRow.holds Try.pinned (OpenSpec.ofChange numberDigitsSpec)

/-- ITS FALSE NEIGHBOUR: 'it returns false'. Refute it at one input. -/
def numberDigitsWrong : ChangeSpec := { name := "numberDigits", fn := fun _ => fun
  | [d] => { results := [.lit (.bool false)], args := [d] }
  | _ => none }
def NumberDigitsWrongFalsely : Prop := numberDigitsRow.holds Try.pinned (OpenSpec.ofChange numberDigitsWrong)

/-- 'pawnshoplaw01.NumberNames': WHATEVER THE INPUT: true; the input reads as it did. -/
def numberNamesSpec : ChangeSpec := { name := "numberNames", fn := fun _ => fun
  | [] => { results := [.lit (.bool true)], args := [] }
  | _ => none }
def numberNamesRow : OpenClaim := { program := "ythkeghhbgbbfdaa", sum := "a223f08de9222697c5c7b4eb0ee3199390e29c3709a1ef29daa0b8c705e67c5b", func := "pawnshop/pawnshoplaw01.NumberNames", spec := "numberNames", apart := false }
def NumberNamesSaid : Prop := numberNamesRow.holds Try.pinned (OpenSpec.ofChange numberNamesSpec)

/-- ITS FALSE NEIGHBOUR: 'it returns false'. Refute it at one input. -/
def numberNamesWrong : ChangeSpec := { name := "numberNames", fn := fun _ => fun
  | [] => { results := [.lit (.bool false)], args := [] }
  | _ => none }
def NumberNamesWrongFalsely : Prop := numberNamesRow.holds Try.pinned (OpenSpec.ofChange numberNamesWrong)

/-- 'pawnshoplaw01.NumberSigns': WHATEVER THE INPUT: true; the input reads as it did. -/
def numberSignsSpec : ChangeSpec := { name := "numberSigns", fn := fun _ => fun
  | [d1, d2, d3] => { results := [.lit (.bool true)], args := [d1, d2, d3] }
  | _ => none }
def numberSignsRow : OpenClaim := { program := "ythkeghhbgbbfdaa", sum := "a223f08de9222697c5c7b4eb0ee3199390e29c3709a1ef29daa0b8c705e67c5b", func := "pawnshop/pawnshoplaw01.NumberSigns", spec := "numberSigns", apart := false }
def NumberSignsSaid : Prop := numberSignsRow.holds Try.pinned (OpenSpec.ofChange numberSignsSpec)

/-- ITS FALSE NEIGHBOUR: 'it returns false'. Refute it at one input. -/
def numberSignsWrong : ChangeSpec := { name := "numberSigns", fn := fun _ => fun
  | [d1, d2, d3] => { results := [.lit (.bool false)], args := [d1, d2, d3] }
  | _ => none }
def NumberSignsWrongFalsely : Prop := numberSignsRow.holds Try.pinned (OpenSpec.ofChange numberSignsWrong)

/-- 'pawnshoplaw01.NumberBack': WHATEVER THE INPUT: true; the input reads as it did. -/
def numberBackSpec : ChangeSpec := { name := "numberBack", fn := fun _ => fun
  | [d1, d2, d3, d4, d5] => { results := [.lit (.bool true)], args := [d1, d2, d3, d4, d5] }
  | _ => none }
def numberBackRow : OpenClaim := { program := "ythkeghhbgbbfdaa", sum := "a223f08de9222697c5c7b4eb0ee3199390e29c3709a1ef29daa0b8c705e67c5b", func := "pawnshop/pawnshoplaw01.NumberBack", spec := "numberBack", apart := false }
def NumberBackSaid : Prop := numberBackRow.holds Try.pinned (OpenSpec.ofChange numberBackSpec)

/-- ITS FALSE NEIGHBOUR: 'it returns false'. Refute it at one input. -/
def numberBackWrong : ChangeSpec := { name := "numberBack", fn := fun _ => fun
  | [d1, d2, d3, d4, d5] => { results := [.lit (.bool false)], args := [d1, d2, d3, d4, d5] }
  | _ => none }
def NumberBackWrongFalsely : Prop := numberBackRow.holds Try.pinned (OpenSpec.ofChange numberBackWrong)

/- THE SECOND FORM. 'bulk': how many values and letters a reading holds, each counted each time it is reached (what is shared counts as often as it is met; a slice's spare places count too). A statement '..UptoSaid' is the law's where the arguments, and the package variables that the reading takes, are together of bulk at most 1048576: NARROWER than '..Said'. Prove '..Said' where nothing that the law and all that it calls make is longer than what came in: it says more and counts as full. Else prove '..UptoSaid'. A law counts once. -/
mutual
def uptoBulk {H : Type} : DataW H → Nat
  | .lit (.string bytes) => bytes.length + 1
  | .lit _ => 1
  | .nil => 1
  | .ptr d => uptoBulk d + 1
  | .slice elems spare => uptoBulkAll elems + uptoBulkAll spare + 1
  | .agg parts => uptoBulkAll parts + 1
  | .iface _ d => uptoBulk d + 1
  | .map entries => uptoBulkEntries entries + 1
  | .held _ => 1
def uptoBulkAll {H : Type} : List (DataW H) → Nat
  | [] => 0
  | d :: r => uptoBulk d + uptoBulkAll r
def uptoBulkEntries {H : Type} : List (Lit × DataW H) → Nat
  | [] => 0
  | x :: r => uptoBulkEntry x + uptoBulkEntries r
def uptoBulkEntry {H : Type} : Lit × DataW H → Nat
  | (.string bytes, d) => bytes.length + uptoBulk d + 1
  | (_, d) => uptoBulk d + 1
 end
def uptoSmall : (H : Type) → List (DataW H) → Bool := fun _ ds => decide (uptoBulkAll ds ≤ 1048576)
def OpenSpec.upto (s : _root_.Go.ChangeSpec) : _root_.Go.OpenSpec := { _root_.Go.OpenSpec.ofChange s with cond := some uptoSmall }

/-- 'pawnshoplaw01.NumberCodes', WHERE WHAT IT READS IS OF BULK AT MOST 1048576: true; the input reads as it did. -/
def numberCodesUptoRow : OpenClaim := { program := "ythkeghhbgbbfdaa", sum := "a223f08de9222697c5c7b4eb0ee3199390e29c3709a1ef29daa0b8c705e67c5b", func := "pawnshop/pawnshoplaw01.NumberCodes", spec := "numberCodes", apart := false, narrowed := true }
def NumberCodesUptoSaid : Prop := numberCodesUptoRow.holds Try.pinned (OpenSpec.upto numberCodesSpec)

/-- 'pawnshoplaw01.NumberOnce', WHERE WHAT IT READS IS OF BULK AT MOST 1048576: true; the input reads as it did. -/
def numberOnceUptoRow : OpenClaim := { program := "ythkeghhbgbbfdaa", sum := "a223f08de9222697c5c7b4eb0ee3199390e29c3709a1ef29daa0b8c705e67c5b", func := "pawnshop/pawnshoplaw01.NumberOnce", spec := "numberOnce", apart := false, narrowed := true }
def NumberOnceUptoSaid : Prop := numberOnceUptoRow.holds Try.pinned (OpenSpec.upto numberOnceSpec)

/-- 'pawnshoplaw01.NumberOrder', WHERE WHAT IT READS IS OF BULK AT MOST 1048576: true; the input reads as it did. -/
def numberOrderUptoRow : OpenClaim := { program := "ythkeghhbgbbfdaa", sum := "a223f08de9222697c5c7b4eb0ee3199390e29c3709a1ef29daa0b8c705e67c5b", func := "pawnshop/pawnshoplaw01.NumberOrder", spec := "numberOrder", apart := false, narrowed := true }
def NumberOrderUptoSaid : Prop := numberOrderUptoRow.holds Try.pinned (OpenSpec.upto numberOrderSpec)

/-- 'pawnshoplaw01.NumberDigits', WHERE WHAT IT READS IS OF BULK AT MOST 1048576: true; the input reads as it did. -/
def numberDigitsUptoRow : OpenClaim := { program := "ythkeghhbgbbfdaa", sum := "a223f08de9222697c5c7b4eb0ee3199390e29c3709a1ef29daa0b8c705e67c5b", func := "pawnshop/pawnshoplaw01.NumberDigits", spec := "numberDigits", apart := false, narrowed := true }
def NumberDigitsUptoSaid : Prop := numberDigitsUptoRow.holds Try.pinned (OpenSpec.upto numberDigitsSpec)

/-- 'pawnshoplaw01.NumberNames', WHERE WHAT IT READS IS OF BULK AT MOST 1048576: true; the input reads as it did. -/
def numberNamesUptoRow : OpenClaim := { program := "ythkeghhbgbbfdaa", sum := "a223f08de9222697c5c7b4eb0ee3199390e29c3709a1ef29daa0b8c705e67c5b", func := "pawnshop/pawnshoplaw01.NumberNames", spec := "numberNames", apart := false, narrowed := true }
def NumberNamesUptoSaid : Prop := numberNamesUptoRow.holds Try.pinned (OpenSpec.upto numberNamesSpec)

/-- 'pawnshoplaw01.NumberSigns', WHERE WHAT IT READS IS OF BULK AT MOST 1048576: true; the input reads as it did. -/
def numberSignsUptoRow : OpenClaim := { program := "ythkeghhbgbbfdaa", sum := "a223f08de9222697c5c7b4eb0ee3199390e29c3709a1ef29daa0b8c705e67c5b", func := "pawnshop/pawnshoplaw01.NumberSigns", spec := "numberSigns", apart := false, narrowed := true }
def NumberSignsUptoSaid : Prop := numberSignsUptoRow.holds Try.pinned (OpenSpec.upto numberSignsSpec)

/-- 'pawnshoplaw01.NumberBack', WHERE WHAT IT READS IS OF BULK AT MOST 1048576: true; the input reads as it did. -/
def numberBackUptoRow : OpenClaim := { program := "ythkeghhbgbbfdaa", sum := "a223f08de9222697c5c7b4eb0ee3199390e29c3709a1ef29daa0b8c705e67c5b", func := "pawnshop/pawnshoplaw01.NumberBack", spec := "numberBack", apart := false, narrowed := true }
def NumberBackUptoSaid : Prop := numberBackUptoRow.holds Try.pinned (OpenSpec.upto numberBackSpec)

end Rows
end Go.Proofs.Ythkeghhbgbbfdaa
