/-
  No cell of these rows narrows 'for every input' (looked for: loops, veiled, ifaces, maps, wideKeys, modest, calm, conditions, laid).
  DERIVED. THE GIVEN ROWS OF THIS SEAT. 11 by the template 'for every input the law returns true; each argument reads behind the call as it read before'; 0 by the template 'total and deterministic' (their statements: YtkkoidhohapjcaaGreatTotals.lean).
  GIVEN WITH THE SEED: the statements are not yours to turn. If you find one false, say at which input.
  Laid BY PROGRAM, IN A SANDBOX (cutbox-rows.mjs): the forced cells as the released guide's own fill.sh prints them over the translation aa48aaeb41a43035… (all of the seat's roots in one cut). By AI agents, Wed Nov 11 2026. No macro, syntax, notation, axiom, sorry.
-/
import Derived.Test.YtkkoidhohapjcaaGreatChecked
import GoSem.Claim
import GoSem.ClaimJoined
import GoSem.ClaimMapViews
import Derived.JoinedTies
import Derived.KernelRfl
namespace Go.Proofs.YtkkoidhohapjcaaGreat
/- THE CELL 'sum', in the pinned program and in every row, IS THE sha256 OF THE DUMP (.gsa) THAT YtkkoidhohapjcaaGreatProg.lean LOADS. Nothing in Lean hashes anything: it is a label: what it is worth is what the hold of that sum in a sandbox is worth. -/
noncomputable def Tryz.pinned : Pinned := { name := "ytkkoidhohapjcaagreat", sum := "aa48aaeb41a4303562b1c04d644c5080bf4ae0b8f6a5acf32ac4fa31b487d4ea", checked := Tryz.checked }
namespace Rows
def none {H : Type} : Left H := { results := [], args := [] }

/-- 'turnbucklelaw16.PackApart': WHATEVER THE INPUT: true; the input reads as it did. -/
def packApartSpec : ChangeSpec := { name := "packApart", fn := fun _ => fun
  | [d1, d2] => { results := [.lit (.bool true)], args := [d1, d2] }
  | _ => none }
def packApartRow : OpenClaim := { program := "ytkkoidhohapjcaagreat", sum := "aa48aaeb41a4303562b1c04d644c5080bf4ae0b8f6a5acf32ac4fa31b487d4ea", func := "turnbuckle/turnbucklelaw16.PackApart", spec := "packApart", inPlace := ["internal/bytealg.IndexByteString", "internal/bytealg.IndexString", "internal/abi.NoEscape", "internal/bytealg.MakeNoZero"], unfollowed := true, recurses := true, named := ["internal/bytealg.MaxLen"], plainKeys := false, apart := false }
def PackApartSaid : Prop := packApartRow.holds Tryz.pinned (OpenSpec.ofChange packApartSpec)

/-- ITS FALSE NEIGHBOUR: 'it returns false'. Refute it at one input. -/
def packApartWrong : ChangeSpec := { name := "packApart", fn := fun _ => fun
  | [d1, d2] => { results := [.lit (.bool false)], args := [d1, d2] }
  | _ => none }
def PackApartWrongFalsely : Prop := packApartRow.holds Tryz.pinned (OpenSpec.ofChange packApartWrong)

/-- 'turnbucklelaw16.PackMay': WHATEVER THE INPUT: true; the input reads as it did. -/
def packMaySpec : ChangeSpec := { name := "packMay", fn := fun _ => fun
  | [d] => { results := [.lit (.bool true)], args := [d] }
  | _ => none }
def packMayRow : OpenClaim := { program := "ytkkoidhohapjcaagreat", sum := "aa48aaeb41a4303562b1c04d644c5080bf4ae0b8f6a5acf32ac4fa31b487d4ea", func := "turnbuckle/turnbucklelaw16.PackMay", spec := "packMay", inPlace := ["internal/bytealg.IndexByteString", "internal/bytealg.IndexString", "internal/abi.NoEscape", "internal/bytealg.MakeNoZero"], unfollowed := true, recurses := true, named := ["internal/bytealg.MaxLen"], plainKeys := false, apart := false }
def PackMaySaid : Prop := packMayRow.holds Tryz.pinned (OpenSpec.ofChange packMaySpec)

/-- ITS FALSE NEIGHBOUR: 'it returns false'. Refute it at one input. -/
def packMayWrong : ChangeSpec := { name := "packMay", fn := fun _ => fun
  | [d] => { results := [.lit (.bool false)], args := [d] }
  | _ => none }
def PackMayWrongFalsely : Prop := packMayRow.holds Tryz.pinned (OpenSpec.ofChange packMayWrong)

/-- 'turnbucklelaw16.PackMoves': WHATEVER THE INPUT: true; the input reads as it did. -/
def packMovesSpec : ChangeSpec := { name := "packMoves", fn := fun _ => fun
  | [d] => { results := [.lit (.bool true)], args := [d] }
  | _ => none }
def packMovesRow : OpenClaim := { program := "ytkkoidhohapjcaagreat", sum := "aa48aaeb41a4303562b1c04d644c5080bf4ae0b8f6a5acf32ac4fa31b487d4ea", func := "turnbuckle/turnbucklelaw16.PackMoves", spec := "packMoves", inPlace := ["internal/bytealg.IndexByteString", "internal/bytealg.IndexString", "internal/abi.NoEscape", "internal/bytealg.MakeNoZero"], unfollowed := true, recurses := true, named := ["internal/bytealg.MaxLen"], plainKeys := false, apart := false }
def PackMovesSaid : Prop := packMovesRow.holds Tryz.pinned (OpenSpec.ofChange packMovesSpec)

/-- ITS FALSE NEIGHBOUR: 'it returns false'. Refute it at one input. -/
def packMovesWrong : ChangeSpec := { name := "packMoves", fn := fun _ => fun
  | [d] => { results := [.lit (.bool false)], args := [d] }
  | _ => none }
def PackMovesWrongFalsely : Prop := packMovesRow.holds Tryz.pinned (OpenSpec.ofChange packMovesWrong)

/-- 'turnbucklelaw20.ScopeMerges': WHATEVER THE INPUT: true; the input reads as it did. -/
def scopeMergesSpec : ChangeSpec := { name := "scopeMerges", fn := fun _ => fun
  | [d] => { results := [.lit (.bool true)], args := [d] }
  | _ => none }
def scopeMergesRow : OpenClaim := { program := "ytkkoidhohapjcaagreat", sum := "aa48aaeb41a4303562b1c04d644c5080bf4ae0b8f6a5acf32ac4fa31b487d4ea", func := "turnbuckle/turnbucklelaw20.ScopeMerges", spec := "scopeMerges", inPlace := ["internal/bytealg.IndexByteString", "internal/bytealg.IndexString", "internal/abi.NoEscape", "internal/bytealg.MakeNoZero"], unfollowed := true, recurses := true, named := ["internal/bytealg.MaxLen"], plainKeys := false, apart := false }
def ScopeMergesSaid : Prop := scopeMergesRow.holds Tryz.pinned (OpenSpec.ofChange scopeMergesSpec)

/-- ITS FALSE NEIGHBOUR: 'it returns false'. Refute it at one input. -/
def scopeMergesWrong : ChangeSpec := { name := "scopeMerges", fn := fun _ => fun
  | [d] => { results := [.lit (.bool false)], args := [d] }
  | _ => none }
def ScopeMergesWrongFalsely : Prop := scopeMergesRow.holds Tryz.pinned (OpenSpec.ofChange scopeMergesWrong)

/-- 'turnbucklelaw22.RelocUsers': WHATEVER THE INPUT: true; the input reads as it did. -/
def relocUsersSpec : ChangeSpec := { name := "relocUsers", fn := fun _ => fun
  | [d1, d2, d3] => { results := [.lit (.bool true)], args := [d1, d2, d3] }
  | _ => none }
def relocUsersRow : OpenClaim := { program := "ytkkoidhohapjcaagreat", sum := "aa48aaeb41a4303562b1c04d644c5080bf4ae0b8f6a5acf32ac4fa31b487d4ea", func := "turnbuckle/turnbucklelaw22.RelocUsers", spec := "relocUsers", inPlace := ["internal/bytealg.IndexByteString", "internal/bytealg.IndexString", "internal/abi.NoEscape", "internal/bytealg.MakeNoZero"], unfollowed := true, recurses := true, named := ["internal/bytealg.MaxLen"], plainKeys := false, apart := false }
def RelocUsersSaid : Prop := relocUsersRow.holds Tryz.pinned (OpenSpec.ofChange relocUsersSpec)

/-- ITS FALSE NEIGHBOUR: 'it returns false'. Refute it at one input. -/
def relocUsersWrong : ChangeSpec := { name := "relocUsers", fn := fun _ => fun
  | [d1, d2, d3] => { results := [.lit (.bool false)], args := [d1, d2, d3] }
  | _ => none }
def RelocUsersWrongFalsely : Prop := relocUsersRow.holds Tryz.pinned (OpenSpec.ofChange relocUsersWrong)

/-- 'turnbucklelaw21.ImageWords': WHATEVER THE INPUT: true; the input reads as it did. -/
def imageWordsSpec : ChangeSpec := { name := "imageWords", fn := fun _ => fun
  | [d1, d2, d3] => { results := [.lit (.bool true)], args := [d1, d2, d3] }
  | _ => none }
def imageWordsRow : OpenClaim := { program := "ytkkoidhohapjcaagreat", sum := "aa48aaeb41a4303562b1c04d644c5080bf4ae0b8f6a5acf32ac4fa31b487d4ea", func := "turnbuckle/turnbucklelaw21.ImageWords", spec := "imageWords", inPlace := ["internal/bytealg.IndexByteString", "internal/bytealg.IndexString", "internal/abi.NoEscape", "internal/bytealg.MakeNoZero"], unfollowed := true, recurses := true, named := ["internal/bytealg.MaxLen"], plainKeys := false, apart := false }
def ImageWordsSaid : Prop := imageWordsRow.holds Tryz.pinned (OpenSpec.ofChange imageWordsSpec)

/-- ITS FALSE NEIGHBOUR: 'it returns false'. Refute it at one input. -/
def imageWordsWrong : ChangeSpec := { name := "imageWords", fn := fun _ => fun
  | [d1, d2, d3] => { results := [.lit (.bool false)], args := [d1, d2, d3] }
  | _ => none }
def ImageWordsWrongFalsely : Prop := imageWordsRow.holds Tryz.pinned (OpenSpec.ofChange imageWordsWrong)

/-- 'turnbucklelaw19.GraphCalls': WHATEVER THE INPUT: true; the input reads as it did. -/
def graphCallsSpec : ChangeSpec := { name := "graphCalls", fn := fun _ => fun
  | [d1, d2, d3] => { results := [.lit (.bool true)], args := [d1, d2, d3] }
  | _ => none }
def graphCallsRow : OpenClaim := { program := "ytkkoidhohapjcaagreat", sum := "aa48aaeb41a4303562b1c04d644c5080bf4ae0b8f6a5acf32ac4fa31b487d4ea", func := "turnbuckle/turnbucklelaw19.GraphCalls", spec := "graphCalls", inPlace := ["internal/bytealg.IndexByteString", "internal/bytealg.IndexString", "internal/abi.NoEscape", "internal/bytealg.MakeNoZero"], unfollowed := true, recurses := true, named := ["internal/bytealg.MaxLen"], plainKeys := false, apart := false }
def GraphCallsSaid : Prop := graphCallsRow.holds Tryz.pinned (OpenSpec.ofChange graphCallsSpec)

/-- ITS FALSE NEIGHBOUR: 'it returns false'. Refute it at one input. -/
def graphCallsWrong : ChangeSpec := { name := "graphCalls", fn := fun _ => fun
  | [d1, d2, d3] => { results := [.lit (.bool false)], args := [d1, d2, d3] }
  | _ => none }
def GraphCallsWrongFalsely : Prop := graphCallsRow.holds Tryz.pinned (OpenSpec.ofChange graphCallsWrong)

/-- 'turnbucklelaw17.ObjectNone': WHATEVER THE INPUT: true; the input reads as it did. -/
def objectNoneSpec : ChangeSpec := { name := "objectNone", fn := fun _ => fun
  | [d] => { results := [.lit (.bool true)], args := [d] }
  | _ => none }
def objectNoneRow : OpenClaim := { program := "ytkkoidhohapjcaagreat", sum := "aa48aaeb41a4303562b1c04d644c5080bf4ae0b8f6a5acf32ac4fa31b487d4ea", func := "turnbuckle/turnbucklelaw17.ObjectNone", spec := "objectNone", inPlace := ["internal/bytealg.IndexByteString", "internal/bytealg.IndexString", "internal/abi.NoEscape", "internal/bytealg.MakeNoZero"], unfollowed := true, recurses := true, named := ["internal/bytealg.MaxLen"], plainKeys := false, apart := false }
def ObjectNoneSaid : Prop := objectNoneRow.holds Tryz.pinned (OpenSpec.ofChange objectNoneSpec)

/-- ITS FALSE NEIGHBOUR: 'it returns false'. Refute it at one input. -/
def objectNoneWrong : ChangeSpec := { name := "objectNone", fn := fun _ => fun
  | [d] => { results := [.lit (.bool false)], args := [d] }
  | _ => none }
def ObjectNoneWrongFalsely : Prop := objectNoneRow.holds Tryz.pinned (OpenSpec.ofChange objectNoneWrong)

/-- 'turnbucklelaw18.StoreObjects': WHATEVER THE INPUT: true; the input reads as it did. -/
def storeObjectsSpec : ChangeSpec := { name := "storeObjects", fn := fun _ => fun
  | [d1, d2, d3] => { results := [.lit (.bool true)], args := [d1, d2, d3] }
  | _ => none }
def storeObjectsRow : OpenClaim := { program := "ytkkoidhohapjcaagreat", sum := "aa48aaeb41a4303562b1c04d644c5080bf4ae0b8f6a5acf32ac4fa31b487d4ea", func := "turnbuckle/turnbucklelaw18.StoreObjects", spec := "storeObjects", inPlace := ["internal/abi.NoEscape", "internal/bytealg.MakeNoZero", "internal/bytealg.IndexByteString", "internal/bytealg.IndexString"], unfollowed := true, recurses := true, named := ["internal/bytealg.MaxLen"], plainKeys := false, apart := false }
def StoreObjectsSaid : Prop := storeObjectsRow.holds Tryz.pinned (OpenSpec.ofChange storeObjectsSpec)

/-- ITS FALSE NEIGHBOUR: 'it returns false'. Refute it at one input. -/
def storeObjectsWrong : ChangeSpec := { name := "storeObjects", fn := fun _ => fun
  | [d1, d2, d3] => { results := [.lit (.bool false)], args := [d1, d2, d3] }
  | _ => none }
def StoreObjectsWrongFalsely : Prop := storeObjectsRow.holds Tryz.pinned (OpenSpec.ofChange storeObjectsWrong)

/-- 'turnbucklelaw17.ObjectReads': WHATEVER THE INPUT: true; the input reads as it did. -/
def objectReadsSpec : ChangeSpec := { name := "objectReads", fn := fun _ => fun
  | [d] => { results := [.lit (.bool true)], args := [d] }
  | _ => none }
def objectReadsRow : OpenClaim := { program := "ytkkoidhohapjcaagreat", sum := "aa48aaeb41a4303562b1c04d644c5080bf4ae0b8f6a5acf32ac4fa31b487d4ea", func := "turnbuckle/turnbucklelaw17.ObjectReads", spec := "objectReads", inPlace := ["internal/bytealg.IndexByteString", "internal/bytealg.IndexString", "internal/abi.NoEscape", "internal/bytealg.MakeNoZero"], unfollowed := true, recurses := true, named := ["internal/bytealg.MaxLen"], plainKeys := false, apart := false }
def ObjectReadsSaid : Prop := objectReadsRow.holds Tryz.pinned (OpenSpec.ofChange objectReadsSpec)

/-- ITS FALSE NEIGHBOUR: 'it returns false'. Refute it at one input. -/
def objectReadsWrong : ChangeSpec := { name := "objectReads", fn := fun _ => fun
  | [d] => { results := [.lit (.bool false)], args := [d] }
  | _ => none }
def ObjectReadsWrongFalsely : Prop := objectReadsRow.holds Tryz.pinned (OpenSpec.ofChange objectReadsWrong)

/-- 'turnbucklelaw17.ObjectFinds': WHATEVER THE INPUT: true; the input reads as it did. -/
def objectFindsSpec : ChangeSpec := { name := "objectFinds", fn := fun _ => fun
  | [d1, d2, d3] => { results := [.lit (.bool true)], args := [d1, d2, d3] }
  | _ => none }
def objectFindsRow : OpenClaim := { program := "ytkkoidhohapjcaagreat", sum := "aa48aaeb41a4303562b1c04d644c5080bf4ae0b8f6a5acf32ac4fa31b487d4ea", func := "turnbuckle/turnbucklelaw17.ObjectFinds", spec := "objectFinds", inPlace := ["internal/bytealg.IndexByteString", "internal/bytealg.IndexString", "internal/abi.NoEscape", "internal/bytealg.MakeNoZero"], unfollowed := true, recurses := true, named := ["internal/bytealg.MaxLen"], plainKeys := false, apart := false }
def ObjectFindsSaid : Prop := objectFindsRow.holds Tryz.pinned (OpenSpec.ofChange objectFindsSpec)

/-- ITS FALSE NEIGHBOUR: 'it returns false'. Refute it at one input. -/
def objectFindsWrong : ChangeSpec := { name := "objectFinds", fn := fun _ => fun
  | [d1, d2, d3] => { results := [.lit (.bool false)], args := [d1, d2, d3] }
  | _ => none }
def ObjectFindsWrongFalsely : Prop := objectFindsRow.holds Tryz.pinned (OpenSpec.ofChange objectFindsWrong)

/- THE SECOND FORM. 'bulk': how many values and letters a reading holds, each counted each time it is reached (what is shared counts as often as it is met; a slice's spare places count too). A statement '..UptoSaid' is the law's where the arguments, and the package variables that the reading takes, are together of bulk at most 1048576: NARROWER than '..Said'. Prove '..Said' where nothing that the law and all that it calls make is longer than what came in: it says more and counts as full. Else prove '..UptoSaid'. A law counts once. -/
mutual
def uptoBulk {H : Type} : DataW H → Nat
  | .lit (.string bytes) => bytes.length + 1
  | .lit _ => 1
  | .nil => 1
  | .ptr d => uptoBulk d + 1
  | .slice elems spare => uptoBulkAll elems + uptoBulkAll spare + 1
  | .agg parts => uptoBulkAll parts + 1
  | .iface _ d => uptoBulk d + 1
  | .map entries => uptoBulkEntries entries + 1
  | .held _ => 1
def uptoBulkAll {H : Type} : List (DataW H) → Nat
  | [] => 0
  | d :: r => uptoBulk d + uptoBulkAll r
def uptoBulkEntries {H : Type} : List (Lit × DataW H) → Nat
  | [] => 0
  | x :: r => uptoBulkEntry x + uptoBulkEntries r
def uptoBulkEntry {H : Type} : Lit × DataW H → Nat
  | (.string bytes, d) => bytes.length + uptoBulk d + 1
  | (_, d) => uptoBulk d + 1
 end
def uptoSmall : (H : Type) → List (DataW H) → Bool := fun _ ds => decide (uptoBulkAll ds ≤ 1048576)
def OpenSpec.upto (s : _root_.Go.ChangeSpec) : _root_.Go.OpenSpec := { _root_.Go.OpenSpec.ofChange s with cond := some uptoSmall }

/-- 'turnbucklelaw16.PackApart', WHERE WHAT IT READS IS OF BULK AT MOST 1048576: true; the input reads as it did. -/
def packApartUptoRow : OpenClaim := { program := "ytkkoidhohapjcaagreat", sum := "aa48aaeb41a4303562b1c04d644c5080bf4ae0b8f6a5acf32ac4fa31b487d4ea", func := "turnbuckle/turnbucklelaw16.PackApart", spec := "packApart", inPlace := ["internal/bytealg.IndexByteString", "internal/bytealg.IndexString", "internal/abi.NoEscape", "internal/bytealg.MakeNoZero"], unfollowed := true, recurses := true, named := ["internal/bytealg.MaxLen"], plainKeys := false, apart := false, narrowed := true }
def PackApartUptoSaid : Prop := packApartUptoRow.holds Tryz.pinned (OpenSpec.upto packApartSpec)

/-- 'turnbucklelaw16.PackMay', WHERE WHAT IT READS IS OF BULK AT MOST 1048576: true; the input reads as it did. -/
def packMayUptoRow : OpenClaim := { program := "ytkkoidhohapjcaagreat", sum := "aa48aaeb41a4303562b1c04d644c5080bf4ae0b8f6a5acf32ac4fa31b487d4ea", func := "turnbuckle/turnbucklelaw16.PackMay", spec := "packMay", inPlace := ["internal/bytealg.IndexByteString", "internal/bytealg.IndexString", "internal/abi.NoEscape", "internal/bytealg.MakeNoZero"], unfollowed := true, recurses := true, named := ["internal/bytealg.MaxLen"], plainKeys := false, apart := false, narrowed := true }
def PackMayUptoSaid : Prop := packMayUptoRow.holds Tryz.pinned (OpenSpec.upto packMaySpec)

/-- 'turnbucklelaw16.PackMoves', WHERE WHAT IT READS IS OF BULK AT MOST 1048576: true; the input reads as it did. -/
def packMovesUptoRow : OpenClaim := { program := "ytkkoidhohapjcaagreat", sum := "aa48aaeb41a4303562b1c04d644c5080bf4ae0b8f6a5acf32ac4fa31b487d4ea", func := "turnbuckle/turnbucklelaw16.PackMoves", spec := "packMoves", inPlace := ["internal/bytealg.IndexByteString", "internal/bytealg.IndexString", "internal/abi.NoEscape", "internal/bytealg.MakeNoZero"], unfollowed := true, recurses := true, named := ["internal/bytealg.MaxLen"], plainKeys := false, apart := false, narrowed := true }
def PackMovesUptoSaid : Prop := packMovesUptoRow.holds Tryz.pinned (OpenSpec.upto packMovesSpec)

/-- 'turnbucklelaw20.ScopeMerges', WHERE WHAT IT READS IS OF BULK AT MOST 1048576: true; the input reads as it did. -/
def scopeMergesUptoRow : OpenClaim := { program := "ytkkoidhohapjcaagreat", sum := "aa48aaeb41a4303562b1c04d644c5080bf4ae0b8f6a5acf32ac4fa31b487d4ea", func := "turnbuckle/turnbucklelaw20.ScopeMerges", spec := "scopeMerges", inPlace := ["internal/bytealg.IndexByteString", "internal/bytealg.IndexString", "internal/abi.NoEscape", "internal/bytealg.MakeNoZero"], unfollowed := true, recurses := true, named := ["internal/bytealg.MaxLen"], plainKeys := false, apart := false, narrowed := true }
def ScopeMergesUptoSaid : Prop := scopeMergesUptoRow.holds Tryz.pinned (OpenSpec.upto scopeMergesSpec)

/-- 'turnbucklelaw22.RelocUsers', WHERE WHAT IT READS IS OF BULK AT MOST 1048576: true; the input reads as it did. -/
def relocUsersUptoRow : OpenClaim := { program := "ytkkoidhohapjcaagreat", sum := "aa48aaeb41a4303562b1c04d644c5080bf4ae0b8f6a5acf32ac4fa31b487d4ea", func := "turnbuckle/turnbucklelaw22.RelocUsers", spec := "relocUsers", inPlace := ["internal/bytealg.IndexByteString", "internal/bytealg.IndexString", "internal/abi.NoEscape", "internal/bytealg.MakeNoZero"], unfollowed := true, recurses := true, named := ["internal/bytealg.MaxLen"], plainKeys := false, apart := false, narrowed := true }
def RelocUsersUptoSaid : Prop := relocUsersUptoRow.holds Tryz.pinned (OpenSpec.upto relocUsersSpec)

/-- 'turnbucklelaw21.ImageWords', WHERE WHAT IT READS IS OF BULK AT MOST 1048576: true; the input reads as it did. -/
def imageWordsUptoRow : OpenClaim := { program := "ytkkoidhohapjcaagreat", sum := "aa48aaeb41a4303562b1c04d644c5080bf4ae0b8f6a5acf32ac4fa31b487d4ea", func := "turnbuckle/turnbucklelaw21.ImageWords", spec := "imageWords", inPlace := ["internal/bytealg.IndexByteString", "internal/bytealg.IndexString", "internal/abi.NoEscape", "internal/bytealg.MakeNoZero"], unfollowed := true, recurses := true, named := ["internal/bytealg.MaxLen"], plainKeys := false, apart := false, narrowed := true }
def ImageWordsUptoSaid : Prop := imageWordsUptoRow.holds Tryz.pinned (OpenSpec.upto imageWordsSpec)

/-- 'turnbucklelaw19.GraphCalls', WHERE WHAT IT READS IS OF BULK AT MOST 1048576: true; the input reads as it did. -/
def graphCallsUptoRow : OpenClaim := { program := "ytkkoidhohapjcaagreat", sum := "aa48aaeb41a4303562b1c04d644c5080bf4ae0b8f6a5acf32ac4fa31b487d4ea", func := "turnbuckle/turnbucklelaw19.GraphCalls", spec := "graphCalls", inPlace := ["internal/bytealg.IndexByteString", "internal/bytealg.IndexString", "internal/abi.NoEscape", "internal/bytealg.MakeNoZero"], unfollowed := true, recurses := true, named := ["internal/bytealg.MaxLen"], plainKeys := false, apart := false, narrowed := true }
def GraphCallsUptoSaid : Prop := graphCallsUptoRow.holds Tryz.pinned (OpenSpec.upto graphCallsSpec)

/-- 'turnbucklelaw17.ObjectNone', WHERE WHAT IT READS IS OF BULK AT MOST 1048576: true; the input reads as it did. -/
def objectNoneUptoRow : OpenClaim := { program := "ytkkoidhohapjcaagreat", sum := "aa48aaeb41a4303562b1c04d644c5080bf4ae0b8f6a5acf32ac4fa31b487d4ea", func := "turnbuckle/turnbucklelaw17.ObjectNone", spec := "objectNone", inPlace := ["internal/bytealg.IndexByteString", "internal/bytealg.IndexString", "internal/abi.NoEscape", "internal/bytealg.MakeNoZero"], unfollowed := true, recurses := true, named := ["internal/bytealg.MaxLen"], plainKeys := false, apart := false, narrowed := true }
def ObjectNoneUptoSaid : Prop := objectNoneUptoRow.holds Tryz.pinned (OpenSpec.upto objectNoneSpec)

/-- 'turnbucklelaw18.StoreObjects', WHERE WHAT IT READS IS OF BULK AT MOST 1048576: true; the input reads as it did. -/
def storeObjectsUptoRow : OpenClaim := { program := "ytkkoidhohapjcaagreat", sum := "aa48aaeb41a4303562b1c04d644c5080bf4ae0b8f6a5acf32ac4fa31b487d4ea", func := "turnbuckle/turnbucklelaw18.StoreObjects", spec := "storeObjects", inPlace := ["internal/abi.NoEscape", "internal/bytealg.MakeNoZero", "internal/bytealg.IndexByteString", "internal/bytealg.IndexString"], unfollowed := true, recurses := true, named := ["internal/bytealg.MaxLen"], plainKeys := false, apart := false, narrowed := true }
def StoreObjectsUptoSaid : Prop := storeObjectsUptoRow.holds Tryz.pinned (OpenSpec.upto storeObjectsSpec)

/-- 'turnbucklelaw17.ObjectReads', WHERE WHAT IT READS IS OF BULK AT MOST 1048576: true; the input reads as it did. -/
def objectReadsUptoRow : OpenClaim := { program := "ytkkoidhohapjcaagreat", sum := "aa48aaeb41a4303562b1c04d644c5080bf4ae0b8f6a5acf32ac4fa31b487d4ea", func := "turnbuckle/turnbucklelaw17.ObjectReads", spec := "objectReads", inPlace := ["internal/bytealg.IndexByteString", "internal/bytealg.IndexString", "internal/abi.NoEscape", "internal/bytealg.MakeNoZero"], unfollowed := true, recurses := true, named := ["internal/bytealg.MaxLen"], plainKeys := false, apart := false, narrowed := true }
def ObjectReadsUptoSaid : Prop := objectReadsUptoRow.holds Tryz.pinned (OpenSpec.upto objectReadsSpec)

/-- 'turnbucklelaw17.ObjectFinds', WHERE WHAT IT READS IS OF BULK AT MOST 1048576: true; the input reads as it did. -/
def objectFindsUptoRow : OpenClaim := { program := "ytkkoidhohapjcaagreat", sum := "aa48aaeb41a4303562b1c04d644c5080bf4ae0b8f6a5acf32ac4fa31b487d4ea", func := "turnbuckle/turnbucklelaw17.ObjectFinds", spec := "objectFinds", inPlace := ["internal/bytealg.IndexByteString", "internal/bytealg.IndexString", "internal/abi.NoEscape", "internal/bytealg.MakeNoZero"], unfollowed := true, recurses := true, named := ["internal/bytealg.MaxLen"], plainKeys := false, apart := false, narrowed := true }
def ObjectFindsUptoSaid : Prop := objectFindsUptoRow.holds Tryz.pinned (OpenSpec.upto objectFindsSpec)

end Rows
end Go.Proofs.YtkkoidhohapjcaaGreat
