/-
  No cell of these rows narrows 'for every input' (looked for: loops, veiled, ifaces, maps, wideKeys, modest, calm, conditions, laid).
  DERIVED. THE GIVEN ROWS OF THIS SEAT. 4 by the template 'for every input the law returns true; each argument reads behind the call as it read before'; 0 by the template 'total and deterministic' (their statements: YtjmjbjnbfodalaaGreatTotals.lean).
  GIVEN WITH THE SEED: the statements are not yours to turn. If you find one false, say at which input.
  Laid BY PROGRAM, IN A SANDBOX (cutbox-rows.mjs): the forced cells as the released guide's own fill.sh prints them over the translation 318bc565523ee8ca… (all of the seat's roots in one cut). By AI agents, Wed Nov 11 2026. No macro, syntax, notation, axiom, sorry.
-/
import Derived.Test.YtjmjbjnbfodalaaGreatChecked
import GoSem.Claim
import GoSem.ClaimJoined
import GoSem.ClaimMapViews
import Derived.JoinedTies
import Derived.KernelRfl
namespace Go.Proofs.YtjmjbjnbfodalaaGreat
/- THE CELL 'sum', in the pinned program and in every row, IS THE sha256 OF THE DUMP (.gsa) THAT YtjmjbjnbfodalaaGreatProg.lean LOADS. Nothing in Lean hashes anything: it is a label: what it is worth is what the hold of that sum in a sandbox is worth. -/
noncomputable def Tryz.pinned : Pinned := { name := "ytjmjbjnbfodalaagreat", sum := "318bc565523ee8cae69f3519621b85d5584c653b4e102c16c4b7df09bb792ec6", checked := Tryz.checked }
namespace Rows
def none {H : Type} : Left H := { results := [], args := [] }

/-- 'turnbucklelaw22.RelocUsers': WHATEVER THE INPUT: true; the input reads as it did. -/
def relocUsersSpec : ChangeSpec := { name := "relocUsers", fn := fun _ => fun
  | [d1, d2, d3] => { results := [.lit (.bool true)], args := [d1, d2, d3] }
  | _ => none }
def relocUsersRow : OpenClaim := { program := "ytjmjbjnbfodalaagreat", sum := "318bc565523ee8cae69f3519621b85d5584c653b4e102c16c4b7df09bb792ec6", func := "turnbuckle/turnbucklelaw22.RelocUsers", spec := "relocUsers", inPlace := ["internal/bytealg.IndexByteString", "internal/bytealg.IndexString", "internal/abi.NoEscape", "internal/bytealg.MakeNoZero"], unfollowed := true, recurses := true, named := ["internal/bytealg.MaxLen"], plainKeys := false, apart := false }
def RelocUsersSaid : Prop := relocUsersRow.holds Tryz.pinned (OpenSpec.ofChange relocUsersSpec)

/-- ITS FALSE NEIGHBOUR: 'it returns false'. Refute it at one input. -/
def relocUsersWrong : ChangeSpec := { name := "relocUsers", fn := fun _ => fun
  | [d1, d2, d3] => { results := [.lit (.bool false)], args := [d1, d2, d3] }
  | _ => none }
def RelocUsersWrongFalsely : Prop := relocUsersRow.holds Tryz.pinned (OpenSpec.ofChange relocUsersWrong)

/-- 'turnbucklelaw21.ImageWords': WHATEVER THE INPUT: true; the input reads as it did. -/
def imageWordsSpec : ChangeSpec := { name := "imageWords", fn := fun _ => fun
  | [d1, d2, d3] => { results := [.lit (.bool true)], args := [d1, d2, d3] }
  | _ => none }
def imageWordsRow : OpenClaim := { program := "ytjmjbjnbfodalaagreat", sum := "318bc565523ee8cae69f3519621b85d5584c653b4e102c16c4b7df09bb792ec6", func := "turnbuckle/turnbucklelaw21.ImageWords", spec := "imageWords", inPlace := ["internal/bytealg.IndexByteString", "internal/bytealg.IndexString", "internal/abi.NoEscape", "internal/bytealg.MakeNoZero"], unfollowed := true, recurses := true, named := ["internal/bytealg.MaxLen"], plainKeys := false, apart := false }
def ImageWordsSaid : Prop := imageWordsRow.holds Tryz.pinned (OpenSpec.ofChange imageWordsSpec)

/-- ITS FALSE NEIGHBOUR: 'it returns false'. Refute it at one input. -/
def imageWordsWrong : ChangeSpec := { name := "imageWords", fn := fun _ => fun
  | [d1, d2, d3] => { results := [.lit (.bool false)], args := [d1, d2, d3] }
  | _ => none }
def ImageWordsWrongFalsely : Prop := imageWordsRow.holds Tryz.pinned (OpenSpec.ofChange imageWordsWrong)

/-- 'turnbucklelaw23.LazySlots': WHATEVER THE INPUT: true; the input reads as it did. -/
def lazySlotsSpec : ChangeSpec := { name := "lazySlots", fn := fun _ => fun
  | [d1, d2, d3] => { results := [.lit (.bool true)], args := [d1, d2, d3] }
  | _ => none }
def lazySlotsRow : OpenClaim := { program := "ytjmjbjnbfodalaagreat", sum := "318bc565523ee8cae69f3519621b85d5584c653b4e102c16c4b7df09bb792ec6", func := "turnbuckle/turnbucklelaw23.LazySlots", spec := "lazySlots", inPlace := ["internal/bytealg.IndexByteString", "internal/bytealg.IndexString", "internal/abi.NoEscape", "internal/bytealg.MakeNoZero"], unfollowed := true, recurses := true, named := ["internal/bytealg.MaxLen"], plainKeys := false, apart := false }
def LazySlotsSaid : Prop := lazySlotsRow.holds Tryz.pinned (OpenSpec.ofChange lazySlotsSpec)

/-- ITS FALSE NEIGHBOUR: 'it returns false'. Refute it at one input. -/
def lazySlotsWrong : ChangeSpec := { name := "lazySlots", fn := fun _ => fun
  | [d1, d2, d3] => { results := [.lit (.bool false)], args := [d1, d2, d3] }
  | _ => none }
def LazySlotsWrongFalsely : Prop := lazySlotsRow.holds Tryz.pinned (OpenSpec.ofChange lazySlotsWrong)

/-- 'turnbucklelaw23.LazyAgain': WHATEVER THE INPUT: true; the input reads as it did. -/
def lazyAgainSpec : ChangeSpec := { name := "lazyAgain", fn := fun _ => fun
  | [d1, d2, d3] => { results := [.lit (.bool true)], args := [d1, d2, d3] }
  | _ => none }
def lazyAgainRow : OpenClaim := { program := "ytjmjbjnbfodalaagreat", sum := "318bc565523ee8cae69f3519621b85d5584c653b4e102c16c4b7df09bb792ec6", func := "turnbuckle/turnbucklelaw23.LazyAgain", spec := "lazyAgain", inPlace := ["internal/bytealg.IndexByteString", "internal/bytealg.IndexString", "internal/abi.NoEscape", "internal/bytealg.MakeNoZero"], unfollowed := true, recurses := true, named := ["internal/bytealg.MaxLen"], plainKeys := false, apart := false }
def LazyAgainSaid : Prop := lazyAgainRow.holds Tryz.pinned (OpenSpec.ofChange lazyAgainSpec)

/-- ITS FALSE NEIGHBOUR: 'it returns false'. Refute it at one input. -/
def lazyAgainWrong : ChangeSpec := { name := "lazyAgain", fn := fun _ => fun
  | [d1, d2, d3] => { results := [.lit (.bool false)], args := [d1, d2, d3] }
  | _ => none }
def LazyAgainWrongFalsely : Prop := lazyAgainRow.holds Tryz.pinned (OpenSpec.ofChange lazyAgainWrong)

/- THE SECOND FORM. 'bulk': how many values and letters a reading holds, each counted each time it is reached (what is shared counts as often as it is met; a slice's spare places count too). A statement '..UptoSaid' is the law's where the arguments, and the package variables that the reading takes, are together of bulk at most 1048576: NARROWER than '..Said'. Prove '..Said' where nothing that the law and all that it calls make is longer than what came in: it says more and counts as full. Else prove '..UptoSaid'. A law counts once. -/
mutual
def uptoBulk {H : Type} : DataW H → Nat
  | .lit (.string bytes) => bytes.length + 1
  | .lit _ => 1
  | .nil => 1
  | .ptr d => uptoBulk d + 1
  | .slice elems spare => uptoBulkAll elems + uptoBulkAll spare + 1
  | .agg parts => uptoBulkAll parts + 1
  | .iface _ d => uptoBulk d + 1
  | .map entries => uptoBulkEntries entries + 1
  | .held _ => 1
def uptoBulkAll {H : Type} : List (DataW H) → Nat
  | [] => 0
  | d :: r => uptoBulk d + uptoBulkAll r
def uptoBulkEntries {H : Type} : List (Lit × DataW H) → Nat
  | [] => 0
  | x :: r => uptoBulkEntry x + uptoBulkEntries r
def uptoBulkEntry {H : Type} : Lit × DataW H → Nat
  | (.string bytes, d) => bytes.length + uptoBulk d + 1
  | (_, d) => uptoBulk d + 1
 end
def uptoSmall : (H : Type) → List (DataW H) → Bool := fun _ ds => decide (uptoBulkAll ds ≤ 1048576)
def OpenSpec.upto (s : _root_.Go.ChangeSpec) : _root_.Go.OpenSpec := { _root_.Go.OpenSpec.ofChange s with cond := some uptoSmall }

/-- 'turnbucklelaw22.RelocUsers', WHERE WHAT IT READS IS OF BULK AT MOST 1048576: true; the input reads as it did. -/
def relocUsersUptoRow : OpenClaim := { program := "ytjmjbjnbfodalaagreat", sum := "318bc565523ee8cae69f3519621b85d5584c653b4e102c16c4b7df09bb792ec6", func := "turnbuckle/turnbucklelaw22.RelocUsers", spec := "relocUsers", inPlace := ["internal/bytealg.IndexByteString", "internal/bytealg.IndexString", "internal/abi.NoEscape", "internal/bytealg.MakeNoZero"], unfollowed := true, recurses := true, named := ["internal/bytealg.MaxLen"], plainKeys := false, apart := false, narrowed := true }
def RelocUsersUptoSaid : Prop := relocUsersUptoRow.holds Tryz.pinned (OpenSpec.upto relocUsersSpec)

/-- 'turnbucklelaw21.ImageWords', WHERE WHAT IT READS IS OF BULK AT MOST 1048576: true; the input reads as it did. -/
def imageWordsUptoRow : OpenClaim := { program := "ytjmjbjnbfodalaagreat", sum := "318bc565523ee8cae69f3519621b85d5584c653b4e102c16c4b7df09bb792ec6", func := "turnbuckle/turnbucklelaw21.ImageWords", spec := "imageWords", inPlace := ["internal/bytealg.IndexByteString", "internal/bytealg.IndexString", "internal/abi.NoEscape", "internal/bytealg.MakeNoZero"], unfollowed := true, recurses := true, named := ["internal/bytealg.MaxLen"], plainKeys := false, apart := false, narrowed := true }
def ImageWordsUptoSaid : Prop := imageWordsUptoRow.holds Tryz.pinned (OpenSpec.upto imageWordsSpec)

/-- 'turnbucklelaw23.LazySlots', WHERE WHAT IT READS IS OF BULK AT MOST 1048576: true; the input reads as it did. -/
def lazySlotsUptoRow : OpenClaim := { program := "ytjmjbjnbfodalaagreat", sum := "318bc565523ee8cae69f3519621b85d5584c653b4e102c16c4b7df09bb792ec6", func := "turnbuckle/turnbucklelaw23.LazySlots", spec := "lazySlots", inPlace := ["internal/bytealg.IndexByteString", "internal/bytealg.IndexString", "internal/abi.NoEscape", "internal/bytealg.MakeNoZero"], unfollowed := true, recurses := true, named := ["internal/bytealg.MaxLen"], plainKeys := false, apart := false, narrowed := true }
def LazySlotsUptoSaid : Prop := lazySlotsUptoRow.holds Tryz.pinned (OpenSpec.upto lazySlotsSpec)

/-- 'turnbucklelaw23.LazyAgain', WHERE WHAT IT READS IS OF BULK AT MOST 1048576: true; the input reads as it did. -/
def lazyAgainUptoRow : OpenClaim := { program := "ytjmjbjnbfodalaagreat", sum := "318bc565523ee8cae69f3519621b85d5584c653b4e102c16c4b7df09bb792ec6", func := "turnbuckle/turnbucklelaw23.LazyAgain", spec := "lazyAgain", inPlace := ["internal/bytealg.IndexByteString", "internal/bytealg.IndexString", "internal/abi.NoEscape", "internal/bytealg.MakeNoZero"], unfollowed := true, recurses := true, named := ["internal/bytealg.MaxLen"], plainKeys := false, apart := false, narrowed := true }
def LazyAgainUptoSaid : Prop := lazyAgainUptoRow.holds Tryz.pinned (OpenSpec.upto lazyAgainSpec)

end Rows
end Go.Proofs.YtjmjbjnbfodalaaGreat
