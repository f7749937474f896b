/-
  No cell of these rows narrows 'for every input' (looked for: loops, veiled, ifaces, maps, wideKeys, modest, calm, conditions, laid).
  DERIVED. THE GIVEN ROWS OF THIS SEAT. 7 by the template 'for every input the law returns true; each argument reads behind the call as it read before'; 0 by the template 'total and deterministic' (their statements: YtdgggjeiflllhaaTotals.lean).
  GIVEN WITH THE SEED: the statements are not yours to turn. If you find one false, say at which input.
  Laid BY PROGRAM, IN A SANDBOX (cutbox-rows.mjs): the forced cells as the released guide's own fill.sh prints them over the translation 820a4dbe5931dd9c… (all of the seat's roots in one cut). By AI agents, Wed Nov 11 2026. No macro, syntax, notation, axiom, sorry.
-/
import Derived.Test.YtdgggjeiflllhaaChecked
import GoSem.Claim
import GoSem.ClaimJoined
import GoSem.ClaimMapViews
import Derived.JoinedTies
import Derived.KernelRfl
namespace Go.Proofs.Ytdgggjeiflllhaa
/- THE CELL 'sum', in the pinned program and in every row, IS THE sha256 OF THE DUMP (.gsa) THAT YtdgggjeiflllhaaProg.lean LOADS. Nothing in Lean hashes anything: it is a label: what it is worth is what the hold of that sum in a sandbox is worth. -/
noncomputable def Try.pinned : Pinned := { name := "ytdgggjeiflllhaa", sum := "820a4dbe5931dd9c5aead4a72acbe675f6e42360250a14c53d633c6b89240ed8", checked := Try.checked }
namespace Rows
def none {H : Type} : Left H := { results := [], args := [] }

/-- 'bifoldlaw9.QencBack': WHATEVER THE INPUT: true; the input reads as it did. -/
def qencBackSpec : ChangeSpec := { name := "qencBack", fn := fun _ => fun
  | [d1, d2, d3, d4, d5] => { results := [.lit (.bool true)], args := [d1, d2, d3, d4, d5] }
  | _ => none }
def qencBackRow : OpenClaim := { program := "ytdgggjeiflllhaa", sum := "820a4dbe5931dd9c5aead4a72acbe675f6e42360250a14c53d633c6b89240ed8", func := "bifold/bifoldlaw9.QencBack", spec := "qencBack", plainKeys := false, apart := false }
def QencBackSaid : Prop := qencBackRow.holds Try.pinned (OpenSpec.ofChange qencBackSpec)

/-- ITS FALSE NEIGHBOUR: 'it returns false'. Refute it at one input. -/
def qencBackWrong : ChangeSpec := { name := "qencBack", fn := fun _ => fun
  | [d1, d2, d3, d4, d5] => { results := [.lit (.bool false)], args := [d1, d2, d3, d4, d5] }
  | _ => none }
def QencBackWrongFalsely : Prop := qencBackRow.holds Try.pinned (OpenSpec.ofChange qencBackWrong)

/-- 'bifoldlaw9.QencBlocked': WHATEVER THE INPUT: true; the input reads as it did. -/
def qencBlockedSpec : ChangeSpec := { name := "qencBlocked", fn := fun _ => fun
  | [d1, d2] => { results := [.lit (.bool true)], args := [d1, d2] }
  | _ => none }
def qencBlockedRow : OpenClaim := { program := "ytdgggjeiflllhaa", sum := "820a4dbe5931dd9c5aead4a72acbe675f6e42360250a14c53d633c6b89240ed8", func := "bifold/bifoldlaw9.QencBlocked", spec := "qencBlocked", plainKeys := false, apart := false }
def QencBlockedSaid : Prop := qencBlockedRow.holds Try.pinned (OpenSpec.ofChange qencBlockedSpec)

/-- ITS FALSE NEIGHBOUR: 'it returns false'. Refute it at one input. -/
def qencBlockedWrong : ChangeSpec := { name := "qencBlocked", fn := fun _ => fun
  | [d1, d2] => { results := [.lit (.bool false)], args := [d1, d2] }
  | _ => none }
def QencBlockedWrongFalsely : Prop := qencBlockedRow.holds Try.pinned (OpenSpec.ofChange qencBlockedWrong)

/-- 'bifoldlaw9.QencWrong': WHATEVER THE INPUT: true; the input reads as it did. -/
def qencWrongSpec : ChangeSpec := { name := "qencWrong", fn := fun _ => fun
  | [d1, d2, d3, d4] => { results := [.lit (.bool true)], args := [d1, d2, d3, d4] }
  | _ => none }
def qencWrongRow : OpenClaim := { program := "ytdgggjeiflllhaa", sum := "820a4dbe5931dd9c5aead4a72acbe675f6e42360250a14c53d633c6b89240ed8", func := "bifold/bifoldlaw9.QencWrong", spec := "qencWrong", plainKeys := false, apart := false }
def QencWrongSaid : Prop := qencWrongRow.holds Try.pinned (OpenSpec.ofChange qencWrongSpec)

/-- ITS FALSE NEIGHBOUR: 'it returns false'. Refute it at one input. -/
def qencWrongWrong : ChangeSpec := { name := "qencWrong", fn := fun _ => fun
  | [d1, d2, d3, d4] => { results := [.lit (.bool false)], args := [d1, d2, d3, d4] }
  | _ => none }
def QencWrongWrongFalsely : Prop := qencWrongRow.holds Try.pinned (OpenSpec.ofChange qencWrongWrong)

/-- 'bifoldlaw10.QdecOrder': WHATEVER THE INPUT: true; the input reads as it did. -/
def qdecOrderSpec : ChangeSpec := { name := "qdecOrder", fn := fun _ => fun
  | [d1, d2] => { results := [.lit (.bool true)], args := [d1, d2] }
  | _ => none }
def qdecOrderRow : OpenClaim := { program := "ytdgggjeiflllhaa", sum := "820a4dbe5931dd9c5aead4a72acbe675f6e42360250a14c53d633c6b89240ed8", func := "bifold/bifoldlaw10.QdecOrder", spec := "qdecOrder", inPlace := ["math/bits.Add64", "math/bits.Sub64"], unfollowed := true, recurses := true, named := ["math/bits.divideError", "math/bits.overflowError"], plainKeys := false, apart := false }
def QdecOrderSaid : Prop := qdecOrderRow.holds Try.pinned (OpenSpec.ofChange qdecOrderSpec)

/-- ITS FALSE NEIGHBOUR: 'it returns false'. Refute it at one input. -/
def qdecOrderWrong : ChangeSpec := { name := "qdecOrder", fn := fun _ => fun
  | [d1, d2] => { results := [.lit (.bool false)], args := [d1, d2] }
  | _ => none }
def QdecOrderWrongFalsely : Prop := qdecOrderRow.holds Try.pinned (OpenSpec.ofChange qdecOrderWrong)

/-- 'bifoldlaw10.QdecPieces': WHATEVER THE INPUT: true; the input reads as it did. -/
def qdecPiecesSpec : ChangeSpec := { name := "qdecPieces", fn := fun _ => fun
  | [d1, d2, d3] => { results := [.lit (.bool true)], args := [d1, d2, d3] }
  | _ => none }
def qdecPiecesRow : OpenClaim := { program := "ytdgggjeiflllhaa", sum := "820a4dbe5931dd9c5aead4a72acbe675f6e42360250a14c53d633c6b89240ed8", func := "bifold/bifoldlaw10.QdecPieces", spec := "qdecPieces", inPlace := ["math/bits.Add64", "math/bits.Sub64"], unfollowed := true, recurses := true, named := ["math/bits.divideError", "math/bits.overflowError"], plainKeys := false, apart := false }
def QdecPiecesSaid : Prop := qdecPiecesRow.holds Try.pinned (OpenSpec.ofChange qdecPiecesSpec)

/-- ITS FALSE NEIGHBOUR: 'it returns false'. Refute it at one input. -/
def qdecPiecesWrong : ChangeSpec := { name := "qdecPieces", fn := fun _ => fun
  | [d1, d2, d3] => { results := [.lit (.bool false)], args := [d1, d2, d3] }
  | _ => none }
def QdecPiecesWrongFalsely : Prop := qdecPiecesRow.holds Try.pinned (OpenSpec.ofChange qdecPiecesWrong)

/-- 'bifoldlaw10.QdecWaits': WHATEVER THE INPUT: true; the input reads as it did. -/
def qdecWaitsSpec : ChangeSpec := { name := "qdecWaits", fn := fun _ => fun
  | [d1, d2, d3] => { results := [.lit (.bool true)], args := [d1, d2, d3] }
  | _ => none }
def qdecWaitsRow : OpenClaim := { program := "ytdgggjeiflllhaa", sum := "820a4dbe5931dd9c5aead4a72acbe675f6e42360250a14c53d633c6b89240ed8", func := "bifold/bifoldlaw10.QdecWaits", spec := "qdecWaits", inPlace := ["math/bits.Add64", "math/bits.Sub64"], unfollowed := true, recurses := true, named := ["math/bits.divideError", "math/bits.overflowError"], plainKeys := false, apart := false }
def QdecWaitsSaid : Prop := qdecWaitsRow.holds Try.pinned (OpenSpec.ofChange qdecWaitsSpec)

/-- ITS FALSE NEIGHBOUR: 'it returns false'. Refute it at one input. -/
def qdecWaitsWrong : ChangeSpec := { name := "qdecWaits", fn := fun _ => fun
  | [d1, d2, d3] => { results := [.lit (.bool false)], args := [d1, d2, d3] }
  | _ => none }
def QdecWaitsWrongFalsely : Prop := qdecWaitsRow.holds Try.pinned (OpenSpec.ofChange qdecWaitsWrong)

/-- 'bifoldlaw10.QdecSends': WHATEVER THE INPUT: true; the input reads as it did. -/
def qdecSendsSpec : ChangeSpec := { name := "qdecSends", fn := fun _ => fun
  | [d1, d2, d3] => { results := [.lit (.bool true)], args := [d1, d2, d3] }
  | _ => none }
def qdecSendsRow : OpenClaim := { program := "ytdgggjeiflllhaa", sum := "820a4dbe5931dd9c5aead4a72acbe675f6e42360250a14c53d633c6b89240ed8", func := "bifold/bifoldlaw10.QdecSends", spec := "qdecSends", inPlace := ["math/bits.Add64", "math/bits.Sub64"], unfollowed := true, recurses := true, named := ["math/bits.divideError", "math/bits.overflowError"], plainKeys := false, apart := false }
def QdecSendsSaid : Prop := qdecSendsRow.holds Try.pinned (OpenSpec.ofChange qdecSendsSpec)

/-- ITS FALSE NEIGHBOUR: 'it returns false'. Refute it at one input. -/
def qdecSendsWrong : ChangeSpec := { name := "qdecSends", fn := fun _ => fun
  | [d1, d2, d3] => { results := [.lit (.bool false)], args := [d1, d2, d3] }
  | _ => none }
def QdecSendsWrongFalsely : Prop := qdecSendsRow.holds Try.pinned (OpenSpec.ofChange qdecSendsWrong)

/- THE SECOND FORM. 'bulk': how many values and letters a reading holds, each counted each time it is reached (what is shared counts as often as it is met; a slice's spare places count too). A statement '..UptoSaid' is the law's where the arguments, and the package variables that the reading takes, are together of bulk at most 1048576: NARROWER than '..Said'. Prove '..Said' where nothing that the law and all that it calls make is longer than what came in: it says more and counts as full. Else prove '..UptoSaid'. A law counts once. -/
mutual
def uptoBulk {H : Type} : DataW H → Nat
  | .lit (.string bytes) => bytes.length + 1
  | .lit _ => 1
  | .nil => 1
  | .ptr d => uptoBulk d + 1
  | .slice elems spare => uptoBulkAll elems + uptoBulkAll spare + 1
  | .agg parts => uptoBulkAll parts + 1
  | .iface _ d => uptoBulk d + 1
  | .map entries => uptoBulkEntries entries + 1
  | .held _ => 1
def uptoBulkAll {H : Type} : List (DataW H) → Nat
  | [] => 0
  | d :: r => uptoBulk d + uptoBulkAll r
def uptoBulkEntries {H : Type} : List (Lit × DataW H) → Nat
  | [] => 0
  | x :: r => uptoBulkEntry x + uptoBulkEntries r
def uptoBulkEntry {H : Type} : Lit × DataW H → Nat
  | (.string bytes, d) => bytes.length + uptoBulk d + 1
  | (_, d) => uptoBulk d + 1
 end
def uptoSmall : (H : Type) → List (DataW H) → Bool := fun _ ds => decide (uptoBulkAll ds ≤ 1048576)
def OpenSpec.upto (s : _root_.Go.ChangeSpec) : _root_.Go.OpenSpec := { _root_.Go.OpenSpec.ofChange s with cond := some uptoSmall }

/-- 'bifoldlaw9.QencBack', WHERE WHAT IT READS IS OF BULK AT MOST 1048576: true; the input reads as it did. -/
def qencBackUptoRow : OpenClaim := { program := "ytdgggjeiflllhaa", sum := "820a4dbe5931dd9c5aead4a72acbe675f6e42360250a14c53d633c6b89240ed8", func := "bifold/bifoldlaw9.QencBack", spec := "qencBack", plainKeys := false, apart := false, narrowed := true }
def QencBackUptoSaid : Prop := qencBackUptoRow.holds Try.pinned (OpenSpec.upto qencBackSpec)

/-- 'bifoldlaw9.QencBlocked', WHERE WHAT IT READS IS OF BULK AT MOST 1048576: true; the input reads as it did. -/
def qencBlockedUptoRow : OpenClaim := { program := "ytdgggjeiflllhaa", sum := "820a4dbe5931dd9c5aead4a72acbe675f6e42360250a14c53d633c6b89240ed8", func := "bifold/bifoldlaw9.QencBlocked", spec := "qencBlocked", plainKeys := false, apart := false, narrowed := true }
def QencBlockedUptoSaid : Prop := qencBlockedUptoRow.holds Try.pinned (OpenSpec.upto qencBlockedSpec)

/-- 'bifoldlaw9.QencWrong', WHERE WHAT IT READS IS OF BULK AT MOST 1048576: true; the input reads as it did. -/
def qencWrongUptoRow : OpenClaim := { program := "ytdgggjeiflllhaa", sum := "820a4dbe5931dd9c5aead4a72acbe675f6e42360250a14c53d633c6b89240ed8", func := "bifold/bifoldlaw9.QencWrong", spec := "qencWrong", plainKeys := false, apart := false, narrowed := true }
def QencWrongUptoSaid : Prop := qencWrongUptoRow.holds Try.pinned (OpenSpec.upto qencWrongSpec)

/-- 'bifoldlaw10.QdecOrder', WHERE WHAT IT READS IS OF BULK AT MOST 1048576: true; the input reads as it did. -/
def qdecOrderUptoRow : OpenClaim := { program := "ytdgggjeiflllhaa", sum := "820a4dbe5931dd9c5aead4a72acbe675f6e42360250a14c53d633c6b89240ed8", func := "bifold/bifoldlaw10.QdecOrder", spec := "qdecOrder", inPlace := ["math/bits.Add64", "math/bits.Sub64"], unfollowed := true, recurses := true, named := ["math/bits.divideError", "math/bits.overflowError"], plainKeys := false, apart := false, narrowed := true }
def QdecOrderUptoSaid : Prop := qdecOrderUptoRow.holds Try.pinned (OpenSpec.upto qdecOrderSpec)

/-- 'bifoldlaw10.QdecPieces', WHERE WHAT IT READS IS OF BULK AT MOST 1048576: true; the input reads as it did. -/
def qdecPiecesUptoRow : OpenClaim := { program := "ytdgggjeiflllhaa", sum := "820a4dbe5931dd9c5aead4a72acbe675f6e42360250a14c53d633c6b89240ed8", func := "bifold/bifoldlaw10.QdecPieces", spec := "qdecPieces", inPlace := ["math/bits.Add64", "math/bits.Sub64"], unfollowed := true, recurses := true, named := ["math/bits.divideError", "math/bits.overflowError"], plainKeys := false, apart := false, narrowed := true }
def QdecPiecesUptoSaid : Prop := qdecPiecesUptoRow.holds Try.pinned (OpenSpec.upto qdecPiecesSpec)

/-- 'bifoldlaw10.QdecWaits', WHERE WHAT IT READS IS OF BULK AT MOST 1048576: true; the input reads as it did. -/
def qdecWaitsUptoRow : OpenClaim := { program := "ytdgggjeiflllhaa", sum := "820a4dbe5931dd9c5aead4a72acbe675f6e42360250a14c53d633c6b89240ed8", func := "bifold/bifoldlaw10.QdecWaits", spec := "qdecWaits", inPlace := ["math/bits.Add64", "math/bits.Sub64"], unfollowed := true, recurses := true, named := ["math/bits.divideError", "math/bits.overflowError"], plainKeys := false, apart := false, narrowed := true }
def QdecWaitsUptoSaid : Prop := qdecWaitsUptoRow.holds Try.pinned (OpenSpec.upto qdecWaitsSpec)

/-- 'bifoldlaw10.QdecSends', WHERE WHAT IT READS IS OF BULK AT MOST 1048576: true; the input reads as it did. -/
def qdecSendsUptoRow : OpenClaim := { program := "ytdgggjeiflllhaa", sum := "820a4dbe5931dd9c5aead4a72acbe675f6e42360250a14c53d633c6b89240ed8", func := "bifold/bifoldlaw10.QdecSends", spec := "qdecSends", inPlace := ["math/bits.Add64", "math/bits.Sub64"], unfollowed := true, recurses := true, named := ["math/bits.divideError", "math/bits.overflowError"], plainKeys := false, apart := false, narrowed := true }
def QdecSendsUptoSaid : Prop := qdecSendsUptoRow.holds Try.pinned (OpenSpec.upto qdecSendsSpec)

end Rows
end Go.Proofs.Ytdgggjeiflllhaa
