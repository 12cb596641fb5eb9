/-
  No cell of these rows narrows 'for every input' (looked for: loops, veiled, ifaces, maps, wideKeys, modest, calm, conditions, laid).
  DERIVED. THE GIVEN ROWS OF THIS SEAT. 4 by the template 'for every input the law returns true; each argument reads behind the call as it read before'; 0 by the template 'total and deterministic' (their statements: YtgnnmpjafjlnfaaGreatTotals.lean).
  GIVEN WITH THE SEED: the statements are not yours to turn. If you find one false, say at which input.
  Laid BY PROGRAM, IN A SANDBOX (cutbox-rows.mjs): the forced cells as the released guide's own fill.sh prints them over the translation 6a3bf574dd989423… (all of the seat's roots in one cut). By AI agents, Wed Nov 11 2026. No macro, syntax, notation, axiom, sorry.
-/
import Derived.Test.YtgnnmpjafjlnfaaGreatChecked
import GoSem.Claim
import GoSem.ClaimJoined
import GoSem.ClaimMapViews
import Derived.JoinedTies
import Derived.KernelRfl
namespace Go.Proofs.YtgnnmpjafjlnfaaGreat
/- THE CELL 'sum', in the pinned program and in every row, IS THE sha256 OF THE DUMP (.gsa) THAT YtgnnmpjafjlnfaaGreatProg.lean LOADS. Nothing in Lean hashes anything: it is a label: what it is worth is what the hold of that sum in a sandbox is worth. -/
noncomputable def Tryz.pinned : Pinned := { name := "ytgnnmpjafjlnfaagreat", sum := "6a3bf574dd98942359702691d2f9c9f01b9990eb7ad02511343bbfe231782e65", checked := Tryz.checked }
namespace Rows
def none {H : Type} : Left H := { results := [], args := [] }

/-- 'turnbucklelaw21.ImageNone': WHATEVER THE INPUT: true; the input reads as it did. -/
def imageNoneSpec : ChangeSpec := { name := "imageNone", fn := fun _ => fun
  | [d] => { results := [.lit (.bool true)], args := [d] }
  | _ => none }
def imageNoneRow : OpenClaim := { program := "ytgnnmpjafjlnfaagreat", sum := "6a3bf574dd98942359702691d2f9c9f01b9990eb7ad02511343bbfe231782e65", func := "turnbuckle/turnbucklelaw21.ImageNone", spec := "imageNone", inPlace := ["internal/bytealg.IndexByteString", "internal/bytealg.IndexString", "internal/abi.NoEscape", "internal/bytealg.MakeNoZero"], unfollowed := true, recurses := true, named := ["internal/bytealg.MaxLen"], plainKeys := false, apart := false }
def ImageNoneSaid : Prop := imageNoneRow.holds Tryz.pinned (OpenSpec.ofChange imageNoneSpec)

/-- ITS FALSE NEIGHBOUR: 'it returns false'. Refute it at one input. -/
def imageNoneWrong : ChangeSpec := { name := "imageNone", fn := fun _ => fun
  | [d] => { results := [.lit (.bool false)], args := [d] }
  | _ => none }
def ImageNoneWrongFalsely : Prop := imageNoneRow.holds Tryz.pinned (OpenSpec.ofChange imageNoneWrong)

/-- 'turnbucklelaw23.LazyNone': WHATEVER THE INPUT: true; the input reads as it did. -/
def lazyNoneSpec : ChangeSpec := { name := "lazyNone", fn := fun _ => fun
  | [d1, d2] => { results := [.lit (.bool true)], args := [d1, d2] }
  | _ => none }
def lazyNoneRow : OpenClaim := { program := "ytgnnmpjafjlnfaagreat", sum := "6a3bf574dd98942359702691d2f9c9f01b9990eb7ad02511343bbfe231782e65", func := "turnbuckle/turnbucklelaw23.LazyNone", spec := "lazyNone", inPlace := ["internal/bytealg.IndexByteString", "internal/bytealg.IndexString", "internal/abi.NoEscape", "internal/bytealg.MakeNoZero"], unfollowed := true, recurses := true, named := ["internal/bytealg.MaxLen"], plainKeys := false, apart := false }
def LazyNoneSaid : Prop := lazyNoneRow.holds Tryz.pinned (OpenSpec.ofChange lazyNoneSpec)

/-- ITS FALSE NEIGHBOUR: 'it returns false'. Refute it at one input. -/
def lazyNoneWrong : ChangeSpec := { name := "lazyNone", fn := fun _ => fun
  | [d1, d2] => { results := [.lit (.bool false)], args := [d1, d2] }
  | _ => none }
def LazyNoneWrongFalsely : Prop := lazyNoneRow.holds Tryz.pinned (OpenSpec.ofChange lazyNoneWrong)

/-- 'turnbucklelaw23.LazyEntries': WHATEVER THE INPUT: true; the input reads as it did. -/
def lazyEntriesSpec : ChangeSpec := { name := "lazyEntries", fn := fun _ => fun
  | [d1, d2, d3] => { results := [.lit (.bool true)], args := [d1, d2, d3] }
  | _ => none }
def lazyEntriesRow : OpenClaim := { program := "ytgnnmpjafjlnfaagreat", sum := "6a3bf574dd98942359702691d2f9c9f01b9990eb7ad02511343bbfe231782e65", func := "turnbuckle/turnbucklelaw23.LazyEntries", spec := "lazyEntries", inPlace := ["internal/bytealg.IndexByteString", "internal/bytealg.IndexString", "internal/abi.NoEscape", "internal/bytealg.MakeNoZero"], unfollowed := true, recurses := true, named := ["internal/bytealg.MaxLen"], plainKeys := false, apart := false }
def LazyEntriesSaid : Prop := lazyEntriesRow.holds Tryz.pinned (OpenSpec.ofChange lazyEntriesSpec)

/-- ITS FALSE NEIGHBOUR: 'it returns false'. Refute it at one input. -/
def lazyEntriesWrong : ChangeSpec := { name := "lazyEntries", fn := fun _ => fun
  | [d1, d2, d3] => { results := [.lit (.bool false)], args := [d1, d2, d3] }
  | _ => none }
def LazyEntriesWrongFalsely : Prop := lazyEntriesRow.holds Tryz.pinned (OpenSpec.ofChange lazyEntriesWrong)

/-- 'turnbucklelaw27.AuditNone': WHATEVER THE INPUT: true; the input reads as it did. -/
def auditNoneSpec : ChangeSpec := { name := "auditNone", fn := fun _ => fun
  | [d] => { results := [.lit (.bool true)], args := [d] }
  | _ => none }
def auditNoneRow : OpenClaim := { program := "ytgnnmpjafjlnfaagreat", sum := "6a3bf574dd98942359702691d2f9c9f01b9990eb7ad02511343bbfe231782e65", func := "turnbuckle/turnbucklelaw27.AuditNone", spec := "auditNone", inPlace := ["internal/bytealg.IndexByteString", "internal/bytealg.IndexString", "internal/abi.NoEscape", "internal/bytealg.MakeNoZero"], unfollowed := true, recurses := true, named := ["internal/bytealg.MaxLen"], plainKeys := false, apart := false }
def AuditNoneSaid : Prop := auditNoneRow.holds Tryz.pinned (OpenSpec.ofChange auditNoneSpec)

/-- ITS FALSE NEIGHBOUR: 'it returns false'. Refute it at one input. -/
def auditNoneWrong : ChangeSpec := { name := "auditNone", fn := fun _ => fun
  | [d] => { results := [.lit (.bool false)], args := [d] }
  | _ => none }
def AuditNoneWrongFalsely : Prop := auditNoneRow.holds Tryz.pinned (OpenSpec.ofChange auditNoneWrong)

/- THE SECOND FORM. 'bulk': how many values and letters a reading holds, each counted each time it is reached (what is shared counts as often as it is met; a slice's spare places count too). A statement '..UptoSaid' is the law's where the arguments, and the package variables that the reading takes, are together of bulk at most 1048576: NARROWER than '..Said'. Prove '..Said' where nothing that the law and all that it calls make is longer than what came in: it says more and counts as full. Else prove '..UptoSaid'. A law counts once. -/
mutual
def uptoBulk {H : Type} : DataW H → Nat
  | .lit (.string bytes) => bytes.length + 1
  | .lit _ => 1
  | .nil => 1
  | .ptr d => uptoBulk d + 1
  | .slice elems spare => uptoBulkAll elems + uptoBulkAll spare + 1
  | .agg parts => uptoBulkAll parts + 1
  | .iface _ d => uptoBulk d + 1
  | .map entries => uptoBulkEntries entries + 1
  | .held _ => 1
def uptoBulkAll {H : Type} : List (DataW H) → Nat
  | [] => 0
  | d :: r => uptoBulk d + uptoBulkAll r
def uptoBulkEntries {H : Type} : List (Lit × DataW H) → Nat
  | [] => 0
  | x :: r => uptoBulkEntry x + uptoBulkEntries r
def uptoBulkEntry {H : Type} : Lit × DataW H → Nat
  | (.string bytes, d) => bytes.length + uptoBulk d + 1
  | (_, d) => uptoBulk d + 1
 end
def uptoSmall : (H : Type) → List (DataW H) → Bool := fun _ ds => decide (uptoBulkAll ds ≤ 1048576)
def OpenSpec.upto (s : _root_.Go.ChangeSpec) : _root_.Go.OpenSpec := { _root_.Go.OpenSpec.ofChange s with cond := some uptoSmall }

/-- 'turnbucklelaw21.ImageNone', WHERE WHAT IT READS IS OF BULK AT MOST 1048576: true; the input reads as it did. -/
def imageNoneUptoRow : OpenClaim := { program := "ytgnnmpjafjlnfaagreat", sum := "6a3bf574dd98942359702691d2f9c9f01b9990eb7ad02511343bbfe231782e65", func := "turnbuckle/turnbucklelaw21.ImageNone", spec := "imageNone", inPlace := ["internal/bytealg.IndexByteString", "internal/bytealg.IndexString", "internal/abi.NoEscape", "internal/bytealg.MakeNoZero"], unfollowed := true, recurses := true, named := ["internal/bytealg.MaxLen"], plainKeys := false, apart := false, narrowed := true }
def ImageNoneUptoSaid : Prop := imageNoneUptoRow.holds Tryz.pinned (OpenSpec.upto imageNoneSpec)

/-- 'turnbucklelaw23.LazyNone', WHERE WHAT IT READS IS OF BULK AT MOST 1048576: true; the input reads as it did. -/
def lazyNoneUptoRow : OpenClaim := { program := "ytgnnmpjafjlnfaagreat", sum := "6a3bf574dd98942359702691d2f9c9f01b9990eb7ad02511343bbfe231782e65", func := "turnbuckle/turnbucklelaw23.LazyNone", spec := "lazyNone", inPlace := ["internal/bytealg.IndexByteString", "internal/bytealg.IndexString", "internal/abi.NoEscape", "internal/bytealg.MakeNoZero"], unfollowed := true, recurses := true, named := ["internal/bytealg.MaxLen"], plainKeys := false, apart := false, narrowed := true }
def LazyNoneUptoSaid : Prop := lazyNoneUptoRow.holds Tryz.pinned (OpenSpec.upto lazyNoneSpec)

/-- 'turnbucklelaw23.LazyEntries', WHERE WHAT IT READS IS OF BULK AT MOST 1048576: true; the input reads as it did. -/
def lazyEntriesUptoRow : OpenClaim := { program := "ytgnnmpjafjlnfaagreat", sum := "6a3bf574dd98942359702691d2f9c9f01b9990eb7ad02511343bbfe231782e65", func := "turnbuckle/turnbucklelaw23.LazyEntries", spec := "lazyEntries", inPlace := ["internal/bytealg.IndexByteString", "internal/bytealg.IndexString", "internal/abi.NoEscape", "internal/bytealg.MakeNoZero"], unfollowed := true, recurses := true, named := ["internal/bytealg.MaxLen"], plainKeys := false, apart := false, narrowed := true }
def LazyEntriesUptoSaid : Prop := lazyEntriesUptoRow.holds Tryz.pinned (OpenSpec.upto lazyEntriesSpec)

/-- 'turnbucklelaw27.AuditNone', WHERE WHAT IT READS IS OF BULK AT MOST 1048576: true; the input reads as it did. -/
def auditNoneUptoRow : OpenClaim := { program := "ytgnnmpjafjlnfaagreat", sum := "6a3bf574dd98942359702691d2f9c9f01b9990eb7ad02511343bbfe231782e65", func := "turnbuckle/turnbucklelaw27.AuditNone", spec := "auditNone", inPlace := ["internal/bytealg.IndexByteString", "internal/bytealg.IndexString", "internal/abi.NoEscape", "internal/bytealg.MakeNoZero"], unfollowed := true, recurses := true, named := ["internal/bytealg.MaxLen"], plainKeys := false, apart := false, narrowed := true }
def AuditNoneUptoSaid : Prop := auditNoneUptoRow.holds Tryz.pinned (OpenSpec.upto auditNoneSpec)

end Rows
end Go.Proofs.YtgnnmpjafjlnfaaGreat
