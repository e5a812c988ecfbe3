/-
  No cell of these rows narrows 'for every input' (looked for: loops, veiled, ifaces, maps, wideKeys, modest, calm, conditions, laid).
  DERIVED. THE GIVEN ROWS OF THIS SEAT. 4 by the template 'for every input the law returns true; each argument reads behind the call as it read before'; 0 by the template 'total and deterministic' (their statements: YtcmhobabbklnhaaTotals.lean).
  GIVEN WITH THE SEED: the statements are not yours to turn. If you find one false, say at which input.
  Laid BY PROGRAM, IN A SANDBOX (cutbox-rows.mjs): the forced cells as the released guide's own fill.sh prints them over the translation afa72cf2f2835c8c… (all of the seat's roots in one cut). By AI agents, Wed Nov 11 2026. No macro, syntax, notation, axiom, sorry.
-/
import Derived.Test.YtcmhobabbklnhaaChecked
import GoSem.Claim
import GoSem.ClaimJoined
import GoSem.ClaimMapViews
import Derived.JoinedTies
import Derived.KernelRfl
namespace Go.Proofs.Ytcmhobabbklnhaa
/- THE CELL 'sum', in the pinned program and in every row, IS THE sha256 OF THE DUMP (.gsa) THAT YtcmhobabbklnhaaProg.lean LOADS. Nothing in Lean hashes anything: it is a label: what it is worth is what the hold of that sum in a sandbox is worth. -/
noncomputable def Try.pinned : Pinned := { name := "ytcmhobabbklnhaa", sum := "afa72cf2f2835c8c0d00566df872d16012f5dbcf8ec0b541a5f12f34e2fb7865", checked := Try.checked }
namespace Rows
def none {H : Type} : Left H := { results := [], args := [] }

/-- 'charterhousetop.TopMixed': WHATEVER THE INPUT: true; the input reads as it did. -/
def topMixedSpec : ChangeSpec := { name := "topMixed", fn := fun _ => fun
  | [d1, d2, d3, d4, d5] => { results := [.lit (.bool true)], args := [d1, d2, d3, d4, d5] }
  | _ => none }
def topMixedRow : OpenClaim := { program := "ytcmhobabbklnhaa", sum := "afa72cf2f2835c8c0d00566df872d16012f5dbcf8ec0b541a5f12f34e2fb7865", func := "charterhouse/charterhousetop.TopMixed", spec := "topMixed", unfollowed := true, recurses := true, apart := false }
def TopMixedSaid : Prop := topMixedRow.holds Try.pinned (OpenSpec.ofChange topMixedSpec)

/-- ITS FALSE NEIGHBOUR: 'it returns false'. Refute it at one input. -/
def topMixedWrong : ChangeSpec := { name := "topMixed", fn := fun _ => fun
  | [d1, d2, d3, d4, d5] => { results := [.lit (.bool false)], args := [d1, d2, d3, d4, d5] }
  | _ => none }
def TopMixedWrongFalsely : Prop := topMixedRow.holds Try.pinned (OpenSpec.ofChange topMixedWrong)

/-- 'charterhousetop.TopPointed': WHATEVER THE INPUT: true; the input reads as it did. -/
def topPointedSpec : ChangeSpec := { name := "topPointed", fn := fun _ => fun
  | [d1, d2, d3, d4, d5, d6] => { results := [.lit (.bool true)], args := [d1, d2, d3, d4, d5, d6] }
  | _ => none }
def topPointedRow : OpenClaim := { program := "ytcmhobabbklnhaa", sum := "afa72cf2f2835c8c0d00566df872d16012f5dbcf8ec0b541a5f12f34e2fb7865", func := "charterhouse/charterhousetop.TopPointed", spec := "topPointed", unfollowed := true, recurses := true, apart := false }
def TopPointedSaid : Prop := topPointedRow.holds Try.pinned (OpenSpec.ofChange topPointedSpec)

/-- ITS FALSE NEIGHBOUR: 'it returns false'. Refute it at one input. -/
def topPointedWrong : ChangeSpec := { name := "topPointed", fn := fun _ => fun
  | [d1, d2, d3, d4, d5, d6] => { results := [.lit (.bool false)], args := [d1, d2, d3, d4, d5, d6] }
  | _ => none }
def TopPointedWrongFalsely : Prop := topPointedRow.holds Try.pinned (OpenSpec.ofChange topPointedWrong)

/-- 'charterhousetop.TopWrapped': WHATEVER THE INPUT: true; the input reads as it did. -/
def topWrappedSpec : ChangeSpec := { name := "topWrapped", fn := fun _ => fun
  | [d1, d2, d3, d4, d5, d6, d7, d8, d9, d10, d11] => { results := [.lit (.bool true)], args := [d1, d2, d3, d4, d5, d6, d7, d8, d9, d10, d11] }
  | _ => none }
def topWrappedRow : OpenClaim := { program := "ytcmhobabbklnhaa", sum := "afa72cf2f2835c8c0d00566df872d16012f5dbcf8ec0b541a5f12f34e2fb7865", func := "charterhouse/charterhousetop.TopWrapped", spec := "topWrapped", unfollowed := true, recurses := true, apart := false }
def TopWrappedSaid : Prop := topWrappedRow.holds Try.pinned (OpenSpec.ofChange topWrappedSpec)

/-- ITS FALSE NEIGHBOUR: 'it returns false'. Refute it at one input. -/
def topWrappedWrong : ChangeSpec := { name := "topWrapped", fn := fun _ => fun
  | [d1, d2, d3, d4, d5, d6, d7, d8, d9, d10, d11] => { results := [.lit (.bool false)], args := [d1, d2, d3, d4, d5, d6, d7, d8, d9, d10, d11] }
  | _ => none }
def TopWrappedWrongFalsely : Prop := topWrappedRow.holds Try.pinned (OpenSpec.ofChange topWrappedWrong)

/-- 'charterhousetop.TopSigned': WHATEVER THE INPUT: true; the input reads as it did. -/
def topSignedSpec : ChangeSpec := { name := "topSigned", fn := fun _ => fun
  | [d1, d2, d3, d4, d5, d6, d7] => { results := [.lit (.bool true)], args := [d1, d2, d3, d4, d5, d6, d7] }
  | _ => none }
def topSignedRow : OpenClaim := { program := "ytcmhobabbklnhaa", sum := "afa72cf2f2835c8c0d00566df872d16012f5dbcf8ec0b541a5f12f34e2fb7865", func := "charterhouse/charterhousetop.TopSigned", spec := "topSigned", unfollowed := true, recurses := true, apart := false }
def TopSignedSaid : Prop := topSignedRow.holds Try.pinned (OpenSpec.ofChange topSignedSpec)

/-- ITS FALSE NEIGHBOUR: 'it returns false'. Refute it at one input. -/
def topSignedWrong : ChangeSpec := { name := "topSigned", fn := fun _ => fun
  | [d1, d2, d3, d4, d5, d6, d7] => { results := [.lit (.bool false)], args := [d1, d2, d3, d4, d5, d6, d7] }
  | _ => none }
def TopSignedWrongFalsely : Prop := topSignedRow.holds Try.pinned (OpenSpec.ofChange topSignedWrong)

/- THE SECOND FORM. 'bulk': how many values and letters a reading holds, each counted each time it is reached (what is shared counts as often as it is met; a slice's spare places count too). A statement '..UptoSaid' is the law's where the arguments, and the package variables that the reading takes, are together of bulk at most 1048576: NARROWER than '..Said'. Prove '..Said' where nothing that the law and all that it calls make is longer than what came in: it says more and counts as full. Else prove '..UptoSaid'. A law counts once. -/
mutual
def uptoBulk {H : Type} : DataW H → Nat
  | .lit (.string bytes) => bytes.length + 1
  | .lit _ => 1
  | .nil => 1
  | .ptr d => uptoBulk d + 1
  | .slice elems spare => uptoBulkAll elems + uptoBulkAll spare + 1
  | .agg parts => uptoBulkAll parts + 1
  | .iface _ d => uptoBulk d + 1
  | .map entries => uptoBulkEntries entries + 1
  | .held _ => 1
def uptoBulkAll {H : Type} : List (DataW H) → Nat
  | [] => 0
  | d :: r => uptoBulk d + uptoBulkAll r
def uptoBulkEntries {H : Type} : List (Lit × DataW H) → Nat
  | [] => 0
  | x :: r => uptoBulkEntry x + uptoBulkEntries r
def uptoBulkEntry {H : Type} : Lit × DataW H → Nat
  | (.string bytes, d) => bytes.length + uptoBulk d + 1
  | (_, d) => uptoBulk d + 1
 end
def uptoSmall : (H : Type) → List (DataW H) → Bool := fun _ ds => decide (uptoBulkAll ds ≤ 1048576)
def OpenSpec.upto (s : _root_.Go.ChangeSpec) : _root_.Go.OpenSpec := { _root_.Go.OpenSpec.ofChange s with cond := some uptoSmall }

/-- 'charterhousetop.TopMixed', WHERE WHAT IT READS IS OF BULK AT MOST 1048576: true; the input reads as it did. -/
def topMixedUptoRow : OpenClaim := { program := "ytcmhobabbklnhaa", sum := "afa72cf2f2835c8c0d00566df872d16012f5dbcf8ec0b541a5f12f34e2fb7865", func := "charterhouse/charterhousetop.TopMixed", spec := "topMixed", unfollowed := true, recurses := true, apart := false, narrowed := true }
def TopMixedUptoSaid : Prop := topMixedUptoRow.holds Try.pinned (OpenSpec.upto topMixedSpec)

/-- 'charterhousetop.TopPointed', WHERE WHAT IT READS IS OF BULK AT MOST 1048576: true; the input reads as it did. -/
def topPointedUptoRow : OpenClaim := { program := "ytcmhobabbklnhaa", sum := "afa72cf2f2835c8c0d00566df872d16012f5dbcf8ec0b541a5f12f34e2fb7865", func := "charterhouse/charterhousetop.TopPointed", spec := "topPointed", unfollowed := true, recurses := true, apart := false, narrowed := true }
def TopPointedUptoSaid : Prop := topPointedUptoRow.holds Try.pinned (OpenSpec.upto topPointedSpec)

/-- 'charterhousetop.TopWrapped', WHERE WHAT IT READS IS OF BULK AT MOST 1048576: true; the input reads as it did. -/
def topWrappedUptoRow : OpenClaim := { program := "ytcmhobabbklnhaa", sum := "afa72cf2f2835c8c0d00566df872d16012f5dbcf8ec0b541a5f12f34e2fb7865", func := "charterhouse/charterhousetop.TopWrapped", spec := "topWrapped", unfollowed := true, recurses := true, apart := false, narrowed := true }
def TopWrappedUptoSaid : Prop := topWrappedUptoRow.holds Try.pinned (OpenSpec.upto topWrappedSpec)

/-- 'charterhousetop.TopSigned', WHERE WHAT IT READS IS OF BULK AT MOST 1048576: true; the input reads as it did. -/
def topSignedUptoRow : OpenClaim := { program := "ytcmhobabbklnhaa", sum := "afa72cf2f2835c8c0d00566df872d16012f5dbcf8ec0b541a5f12f34e2fb7865", func := "charterhouse/charterhousetop.TopSigned", spec := "topSigned", unfollowed := true, recurses := true, apart := false, narrowed := true }
def TopSignedUptoSaid : Prop := topSignedUptoRow.holds Try.pinned (OpenSpec.upto topSignedSpec)

end Rows
end Go.Proofs.Ytcmhobabbklnhaa
