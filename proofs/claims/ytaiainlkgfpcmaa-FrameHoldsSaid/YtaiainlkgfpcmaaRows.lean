/-
  No cell of these rows narrows 'for every input' (looked for: loops, veiled, ifaces, maps, wideKeys, modest, calm, conditions, laid).
  DERIVED. THE GIVEN ROWS OF THIS SEAT. 10 by the template 'for every input the law returns true; each argument reads behind the call as it read before'; 0 by the template 'total and deterministic' (their statements: YtaiainlkgfpcmaaTotals.lean).
  GIVEN WITH THE SEED: the statements are not yours to turn. If you find one false, say at which input.
  Laid BY PROGRAM, IN A SANDBOX (cutbox-rows.mjs): the forced cells as the released guide's own fill.sh prints them over the translation 4aedd7b467c439dc… (all of the seat's roots in one cut). By AI agents, Wed Nov 11 2026. No macro, syntax, notation, axiom, sorry.
-/
import Derived.Test.YtaiainlkgfpcmaaChecked
import GoSem.Claim
import GoSem.ClaimJoined
import GoSem.ClaimMapViews
import Derived.JoinedTies
import Derived.KernelRfl
namespace Go.Proofs.Ytaiainlkgfpcmaa
/- THE CELL 'sum', in the pinned program and in every row, IS THE sha256 OF THE DUMP (.gsa) THAT YtaiainlkgfpcmaaProg.lean LOADS. Nothing in Lean hashes anything: it is a label: what it is worth is what the hold of that sum in a sandbox is worth. -/
noncomputable def Try.pinned : Pinned := { name := "ytaiainlkgfpcmaa", sum := "4aedd7b467c439dc82318c014d4c0d8ab4cebec5309d887ce48aa519d1ab4d48", checked := Try.checked }
namespace Rows
def none {H : Type} : Left H := { results := [], args := [] }

/-- 'redpencillaw19.FrameSeals': WHATEVER THE INPUT: true; the input reads as it did. -/
def frameSealsSpec : ChangeSpec := { name := "frameSeals", fn := fun _ => fun
  | [d1, d2] => { results := [.lit (.bool true)], args := [d1, d2] }
  | _ => none }
def frameSealsRow : OpenClaim := { program := "ytaiainlkgfpcmaa", sum := "4aedd7b467c439dc82318c014d4c0d8ab4cebec5309d887ce48aa519d1ab4d48", func := "redpencil/redpencillaw19.FrameSeals", spec := "frameSeals", unfollowed := true, recurses := true, apart := false }
def FrameSealsSaid : Prop := frameSealsRow.holds Try.pinned (OpenSpec.ofChange frameSealsSpec)

/-- ITS FALSE NEIGHBOUR: 'it returns false'. Refute it at one input. -/
def frameSealsWrong : ChangeSpec := { name := "frameSeals", fn := fun _ => fun
  | [d1, d2] => { results := [.lit (.bool false)], args := [d1, d2] }
  | _ => none }
def FrameSealsWrongFalsely : Prop := frameSealsRow.holds Try.pinned (OpenSpec.ofChange frameSealsWrong)

/-- 'redpencillaw19.FrameReads': WHATEVER THE INPUT: true; the input reads as it did. -/
def frameReadsSpec : ChangeSpec := { name := "frameReads", fn := fun _ => fun
  | [d] => { results := [.lit (.bool true)], args := [d] }
  | _ => none }
def frameReadsRow : OpenClaim := { program := "ytaiainlkgfpcmaa", sum := "4aedd7b467c439dc82318c014d4c0d8ab4cebec5309d887ce48aa519d1ab4d48", func := "redpencil/redpencillaw19.FrameReads", spec := "frameReads", unfollowed := true, recurses := true, apart := false }
def FrameReadsSaid : Prop := frameReadsRow.holds Try.pinned (OpenSpec.ofChange frameReadsSpec)

/-- ITS FALSE NEIGHBOUR: 'it returns false'. Refute it at one input. -/
def frameReadsWrong : ChangeSpec := { name := "frameReads", fn := fun _ => fun
  | [d] => { results := [.lit (.bool false)], args := [d] }
  | _ => none }
def FrameReadsWrongFalsely : Prop := frameReadsRow.holds Try.pinned (OpenSpec.ofChange frameReadsWrong)

/-- 'redpencillaw19.FrameSpoilt': WHATEVER THE INPUT: true; the input reads as it did. -/
def frameSpoiltSpec : ChangeSpec := { name := "frameSpoilt", fn := fun _ => fun
  | [d1, d2, d3, d4, d5] => { results := [.lit (.bool true)], args := [d1, d2, d3, d4, d5] }
  | _ => none }
def frameSpoiltRow : OpenClaim := { program := "ytaiainlkgfpcmaa", sum := "4aedd7b467c439dc82318c014d4c0d8ab4cebec5309d887ce48aa519d1ab4d48", func := "redpencil/redpencillaw19.FrameSpoilt", spec := "frameSpoilt", unfollowed := true, recurses := true, apart := false }
def FrameSpoiltSaid : Prop := frameSpoiltRow.holds Try.pinned (OpenSpec.ofChange frameSpoiltSpec)

/-- ITS FALSE NEIGHBOUR: 'it returns false'. Refute it at one input. -/
def frameSpoiltWrong : ChangeSpec := { name := "frameSpoilt", fn := fun _ => fun
  | [d1, d2, d3, d4, d5] => { results := [.lit (.bool false)], args := [d1, d2, d3, d4, d5] }
  | _ => none }
def FrameSpoiltWrongFalsely : Prop := frameSpoiltRow.holds Try.pinned (OpenSpec.ofChange frameSpoiltWrong)

/-- 'redpencillaw19.FrameSizes': WHATEVER THE INPUT: true; the input reads as it did. -/
def frameSizesSpec : ChangeSpec := { name := "frameSizes", fn := fun _ => fun
  | [d] => { results := [.lit (.bool true)], args := [d] }
  | _ => none }
def frameSizesRow : OpenClaim := { program := "ytaiainlkgfpcmaa", sum := "4aedd7b467c439dc82318c014d4c0d8ab4cebec5309d887ce48aa519d1ab4d48", func := "redpencil/redpencillaw19.FrameSizes", spec := "frameSizes", unfollowed := true, recurses := true, apart := false }
def FrameSizesSaid : Prop := frameSizesRow.holds Try.pinned (OpenSpec.ofChange frameSizesSpec)

/-- ITS FALSE NEIGHBOUR: 'it returns false'. Refute it at one input. -/
def frameSizesWrong : ChangeSpec := { name := "frameSizes", fn := fun _ => fun
  | [d] => { results := [.lit (.bool false)], args := [d] }
  | _ => none }
def FrameSizesWrongFalsely : Prop := frameSizesRow.holds Try.pinned (OpenSpec.ofChange frameSizesWrong)

/-- 'redpencillaw19.FrameLongs': WHATEVER THE INPUT: true; the input reads as it did. -/
def frameLongsSpec : ChangeSpec := { name := "frameLongs", fn := fun _ => fun
  | [d1, d2] => { results := [.lit (.bool true)], args := [d1, d2] }
  | _ => none }
def frameLongsRow : OpenClaim := { program := "ytaiainlkgfpcmaa", sum := "4aedd7b467c439dc82318c014d4c0d8ab4cebec5309d887ce48aa519d1ab4d48", func := "redpencil/redpencillaw19.FrameLongs", spec := "frameLongs", unfollowed := true, recurses := true, apart := false }
def FrameLongsSaid : Prop := frameLongsRow.holds Try.pinned (OpenSpec.ofChange frameLongsSpec)

/-- ITS FALSE NEIGHBOUR: 'it returns false'. Refute it at one input. -/
def frameLongsWrong : ChangeSpec := { name := "frameLongs", fn := fun _ => fun
  | [d1, d2] => { results := [.lit (.bool false)], args := [d1, d2] }
  | _ => none }
def FrameLongsWrongFalsely : Prop := frameLongsRow.holds Try.pinned (OpenSpec.ofChange frameLongsWrong)

/-- 'redpencillaw19.FrameHolds': WHATEVER THE INPUT: true; the input reads as it did. -/
def frameHoldsSpec : ChangeSpec := { name := "frameHolds", fn := fun _ => fun
  | [d1, d2, d3, d4, d5, d6, d7] => { results := [.lit (.bool true)], args := [d1, d2, d3, d4, d5, d6, d7] }
  | _ => none }
def frameHoldsRow : OpenClaim := { program := "ytaiainlkgfpcmaa", sum := "4aedd7b467c439dc82318c014d4c0d8ab4cebec5309d887ce48aa519d1ab4d48", func := "redpencil/redpencillaw19.FrameHolds", spec := "frameHolds", unfollowed := true, recurses := true, apart := false }
def FrameHoldsSaid : Prop := frameHoldsRow.holds Try.pinned (OpenSpec.ofChange frameHoldsSpec)

/-- ITS FALSE NEIGHBOUR: 'it returns false'. Refute it at one input. -/
def frameHoldsWrong : ChangeSpec := { name := "frameHolds", fn := fun _ => fun
  | [d1, d2, d3, d4, d5, d6, d7] => { results := [.lit (.bool false)], args := [d1, d2, d3, d4, d5, d6, d7] }
  | _ => none }
def FrameHoldsWrongFalsely : Prop := frameHoldsRow.holds Try.pinned (OpenSpec.ofChange frameHoldsWrong)

/-- 'redpencillaw21.SlotRooms': WHATEVER THE INPUT: true; the input reads as it did. -/
def slotRoomsSpec : ChangeSpec := { name := "slotRooms", fn := fun _ => fun
  | [d1, d2, d3] => { results := [.lit (.bool true)], args := [d1, d2, d3] }
  | _ => none }
def slotRoomsRow : OpenClaim := { program := "ytaiainlkgfpcmaa", sum := "4aedd7b467c439dc82318c014d4c0d8ab4cebec5309d887ce48aa519d1ab4d48", func := "redpencil/redpencillaw21.SlotRooms", spec := "slotRooms", unfollowed := true, recurses := true, apart := false }
def SlotRoomsSaid : Prop := slotRoomsRow.holds Try.pinned (OpenSpec.ofChange slotRoomsSpec)

/-- ITS FALSE NEIGHBOUR: 'it returns false'. Refute it at one input. -/
def slotRoomsWrong : ChangeSpec := { name := "slotRooms", fn := fun _ => fun
  | [d1, d2, d3] => { results := [.lit (.bool false)], args := [d1, d2, d3] }
  | _ => none }
def SlotRoomsWrongFalsely : Prop := slotRoomsRow.holds Try.pinned (OpenSpec.ofChange slotRoomsWrong)

/-- 'redpencillaw21.SlotNil': WHATEVER THE INPUT: true; the input reads as it did. -/
def slotNilSpec : ChangeSpec := { name := "slotNil", fn := fun _ => fun
  | [d] => { results := [.lit (.bool true)], args := [d] }
  | _ => none }
def slotNilRow : OpenClaim := { program := "ytaiainlkgfpcmaa", sum := "4aedd7b467c439dc82318c014d4c0d8ab4cebec5309d887ce48aa519d1ab4d48", func := "redpencil/redpencillaw21.SlotNil", spec := "slotNil", unfollowed := true, recurses := true, apart := false }
def SlotNilSaid : Prop := slotNilRow.holds Try.pinned (OpenSpec.ofChange slotNilSpec)

/-- ITS FALSE NEIGHBOUR: 'it returns false'. Refute it at one input. -/
def slotNilWrong : ChangeSpec := { name := "slotNil", fn := fun _ => fun
  | [d] => { results := [.lit (.bool false)], args := [d] }
  | _ => none }
def SlotNilWrongFalsely : Prop := slotNilRow.holds Try.pinned (OpenSpec.ofChange slotNilWrong)

/-- 'redpencillaw21.SlotPlays': WHATEVER THE INPUT: true; the input reads as it did. -/
def slotPlaysSpec : ChangeSpec := { name := "slotPlays", fn := fun _ => fun
  | [d1, d2, d3] => { results := [.lit (.bool true)], args := [d1, d2, d3] }
  | _ => none }
def slotPlaysRow : OpenClaim := { program := "ytaiainlkgfpcmaa", sum := "4aedd7b467c439dc82318c014d4c0d8ab4cebec5309d887ce48aa519d1ab4d48", func := "redpencil/redpencillaw21.SlotPlays", spec := "slotPlays", unfollowed := true, recurses := true, apart := false }
def SlotPlaysSaid : Prop := slotPlaysRow.holds Try.pinned (OpenSpec.ofChange slotPlaysSpec)

/-- ITS FALSE NEIGHBOUR: 'it returns false'. Refute it at one input. -/
def slotPlaysWrong : ChangeSpec := { name := "slotPlays", fn := fun _ => fun
  | [d1, d2, d3] => { results := [.lit (.bool false)], args := [d1, d2, d3] }
  | _ => none }
def SlotPlaysWrongFalsely : Prop := slotPlaysRow.holds Try.pinned (OpenSpec.ofChange slotPlaysWrong)

/-- 'redpencillaw21.SlotSpoilt': WHATEVER THE INPUT: true; the input reads as it did. -/
def slotSpoiltSpec : ChangeSpec := { name := "slotSpoilt", fn := fun _ => fun
  | [d1, d2, d3, d4] => { results := [.lit (.bool true)], args := [d1, d2, d3, d4] }
  | _ => none }
def slotSpoiltRow : OpenClaim := { program := "ytaiainlkgfpcmaa", sum := "4aedd7b467c439dc82318c014d4c0d8ab4cebec5309d887ce48aa519d1ab4d48", func := "redpencil/redpencillaw21.SlotSpoilt", spec := "slotSpoilt", unfollowed := true, recurses := true, apart := false }
def SlotSpoiltSaid : Prop := slotSpoiltRow.holds Try.pinned (OpenSpec.ofChange slotSpoiltSpec)

/-- ITS FALSE NEIGHBOUR: 'it returns false'. Refute it at one input. -/
def slotSpoiltWrong : ChangeSpec := { name := "slotSpoilt", fn := fun _ => fun
  | [d1, d2, d3, d4] => { results := [.lit (.bool false)], args := [d1, d2, d3, d4] }
  | _ => none }
def SlotSpoiltWrongFalsely : Prop := slotSpoiltRow.holds Try.pinned (OpenSpec.ofChange slotSpoiltWrong)

/- THE SECOND FORM. 'bulk': how many values and letters a reading holds, each counted each time it is reached (what is shared counts as often as it is met; a slice's spare places count too). A statement '..UptoSaid' is the law's where the arguments, and the package variables that the reading takes, are together of bulk at most 1048576: NARROWER than '..Said'. Prove '..Said' where nothing that the law and all that it calls make is longer than what came in: it says more and counts as full. Else prove '..UptoSaid'. A law counts once. -/
mutual
def uptoBulk {H : Type} : DataW H → Nat
  | .lit (.string bytes) => bytes.length + 1
  | .lit _ => 1
  | .nil => 1
  | .ptr d => uptoBulk d + 1
  | .slice elems spare => uptoBulkAll elems + uptoBulkAll spare + 1
  | .agg parts => uptoBulkAll parts + 1
  | .iface _ d => uptoBulk d + 1
  | .map entries => uptoBulkEntries entries + 1
  | .held _ => 1
def uptoBulkAll {H : Type} : List (DataW H) → Nat
  | [] => 0
  | d :: r => uptoBulk d + uptoBulkAll r
def uptoBulkEntries {H : Type} : List (Lit × DataW H) → Nat
  | [] => 0
  | x :: r => uptoBulkEntry x + uptoBulkEntries r
def uptoBulkEntry {H : Type} : Lit × DataW H → Nat
  | (.string bytes, d) => bytes.length + uptoBulk d + 1
  | (_, d) => uptoBulk d + 1
 end
def uptoSmall : (H : Type) → List (DataW H) → Bool := fun _ ds => decide (uptoBulkAll ds ≤ 1048576)
def OpenSpec.upto (s : _root_.Go.ChangeSpec) : _root_.Go.OpenSpec := { _root_.Go.OpenSpec.ofChange s with cond := some uptoSmall }

/-- 'redpencillaw19.FrameSeals', WHERE WHAT IT READS IS OF BULK AT MOST 1048576: true; the input reads as it did. -/
def frameSealsUptoRow : OpenClaim := { program := "ytaiainlkgfpcmaa", sum := "4aedd7b467c439dc82318c014d4c0d8ab4cebec5309d887ce48aa519d1ab4d48", func := "redpencil/redpencillaw19.FrameSeals", spec := "frameSeals", unfollowed := true, recurses := true, apart := false, narrowed := true }
def FrameSealsUptoSaid : Prop := frameSealsUptoRow.holds Try.pinned (OpenSpec.upto frameSealsSpec)

/-- 'redpencillaw19.FrameReads', WHERE WHAT IT READS IS OF BULK AT MOST 1048576: true; the input reads as it did. -/
def frameReadsUptoRow : OpenClaim := { program := "ytaiainlkgfpcmaa", sum := "4aedd7b467c439dc82318c014d4c0d8ab4cebec5309d887ce48aa519d1ab4d48", func := "redpencil/redpencillaw19.FrameReads", spec := "frameReads", unfollowed := true, recurses := true, apart := false, narrowed := true }
def FrameReadsUptoSaid : Prop := frameReadsUptoRow.holds Try.pinned (OpenSpec.upto frameReadsSpec)

/-- 'redpencillaw19.FrameSpoilt', WHERE WHAT IT READS IS OF BULK AT MOST 1048576: true; the input reads as it did. -/
def frameSpoiltUptoRow : OpenClaim := { program := "ytaiainlkgfpcmaa", sum := "4aedd7b467c439dc82318c014d4c0d8ab4cebec5309d887ce48aa519d1ab4d48", func := "redpencil/redpencillaw19.FrameSpoilt", spec := "frameSpoilt", unfollowed := true, recurses := true, apart := false, narrowed := true }
def FrameSpoiltUptoSaid : Prop := frameSpoiltUptoRow.holds Try.pinned (OpenSpec.upto frameSpoiltSpec)

/-- 'redpencillaw19.FrameSizes', WHERE WHAT IT READS IS OF BULK AT MOST 1048576: true; the input reads as it did. -/
def frameSizesUptoRow : OpenClaim := { program := "ytaiainlkgfpcmaa", sum := "4aedd7b467c439dc82318c014d4c0d8ab4cebec5309d887ce48aa519d1ab4d48", func := "redpencil/redpencillaw19.FrameSizes", spec := "frameSizes", unfollowed := true, recurses := true, apart := false, narrowed := true }
def FrameSizesUptoSaid : Prop := frameSizesUptoRow.holds Try.pinned (OpenSpec.upto frameSizesSpec)

/-- 'redpencillaw19.FrameLongs', WHERE WHAT IT READS IS OF BULK AT MOST 1048576: true; the input reads as it did. -/
def frameLongsUptoRow : OpenClaim := { program := "ytaiainlkgfpcmaa", sum := "4aedd7b467c439dc82318c014d4c0d8ab4cebec5309d887ce48aa519d1ab4d48", func := "redpencil/redpencillaw19.FrameLongs", spec := "frameLongs", unfollowed := true, recurses := true, apart := false, narrowed := true }
def FrameLongsUptoSaid : Prop := frameLongsUptoRow.holds Try.pinned (OpenSpec.upto frameLongsSpec)

/-- 'redpencillaw19.FrameHolds', WHERE WHAT IT READS IS OF BULK AT MOST 1048576: true; the input reads as it did. -/
def frameHoldsUptoRow : OpenClaim := { program := "ytaiainlkgfpcmaa", sum := "4aedd7b467c439dc82318c014d4c0d8ab4cebec5309d887ce48aa519d1ab4d48", func := "redpencil/redpencillaw19.FrameHolds", spec := "frameHolds", unfollowed := true, recurses := true, apart := false, narrowed := true }
def FrameHoldsUptoSaid : Prop := frameHoldsUptoRow.holds Try.pinned (OpenSpec.upto frameHoldsSpec)

/-- 'redpencillaw21.SlotRooms', WHERE WHAT IT READS IS OF BULK AT MOST 1048576: true; the input reads as it did. -/
def slotRoomsUptoRow : OpenClaim := { program := "ytaiainlkgfpcmaa", sum := "4aedd7b467c439dc82318c014d4c0d8ab4cebec5309d887ce48aa519d1ab4d48", func := "redpencil/redpencillaw21.SlotRooms", spec := "slotRooms", unfollowed := true, recurses := true, apart := false, narrowed := true }
def SlotRoomsUptoSaid : Prop := slotRoomsUptoRow.holds Try.pinned (OpenSpec.upto slotRoomsSpec)

/-- 'redpencillaw21.SlotNil', WHERE WHAT IT READS IS OF BULK AT MOST 1048576: true; the input reads as it did. -/
def slotNilUptoRow : OpenClaim := { program := "ytaiainlkgfpcmaa", sum := "4aedd7b467c439dc82318c014d4c0d8ab4cebec5309d887ce48aa519d1ab4d48", func := "redpencil/redpencillaw21.SlotNil", spec := "slotNil", unfollowed := true, recurses := true, apart := false, narrowed := true }
def SlotNilUptoSaid : Prop := slotNilUptoRow.holds Try.pinned (OpenSpec.upto slotNilSpec)

/-- 'redpencillaw21.SlotPlays', WHERE WHAT IT READS IS OF BULK AT MOST 1048576: true; the input reads as it did. -/
def slotPlaysUptoRow : OpenClaim := { program := "ytaiainlkgfpcmaa", sum := "4aedd7b467c439dc82318c014d4c0d8ab4cebec5309d887ce48aa519d1ab4d48", func := "redpencil/redpencillaw21.SlotPlays", spec := "slotPlays", unfollowed := true, recurses := true, apart := false, narrowed := true }
def SlotPlaysUptoSaid : Prop := slotPlaysUptoRow.holds Try.pinned (OpenSpec.upto slotPlaysSpec)

/-- 'redpencillaw21.SlotSpoilt', WHERE WHAT IT READS IS OF BULK AT MOST 1048576: true; the input reads as it did. -/
def slotSpoiltUptoRow : OpenClaim := { program := "ytaiainlkgfpcmaa", sum := "4aedd7b467c439dc82318c014d4c0d8ab4cebec5309d887ce48aa519d1ab4d48", func := "redpencil/redpencillaw21.SlotSpoilt", spec := "slotSpoilt", unfollowed := true, recurses := true, apart := false, narrowed := true }
def SlotSpoiltUptoSaid : Prop := slotSpoiltUptoRow.holds Try.pinned (OpenSpec.upto slotSpoiltSpec)

end Rows
end Go.Proofs.Ytaiainlkgfpcmaa
