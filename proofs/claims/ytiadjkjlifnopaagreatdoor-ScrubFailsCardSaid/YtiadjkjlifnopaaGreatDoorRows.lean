/-
  NARROWER THAN 'FOR EVERY INPUT', by the rows' own cells (each row's printed sentence says how): ScrubGroups: laid · ScrubClean: laid · ManifestOld: laid · ManifestGrows: laid · ManifestNone: laid · ScrubMake: laid · ScrubFails: laid.
  DERIVED. THE GIVEN ROWS OF THIS SEAT. 7 by the template 'for every input the law returns true; each argument reads behind the call as it read before'; 0 by the template 'total and deterministic' (their statements: YtiadjkjlifnopaaGreatDoorTotals.lean).
  GIVEN WITH THE SEED: the statements are not yours to turn. If you find one false, say at which input.
  Laid BY PROGRAM, IN A SANDBOX (cutbox-rows.mjs): the forced cells as the released guide's own fill.sh prints them over the translation 1ea7115ee7dc2b16… (all of the seat's roots in one cut). By AI agents, Wed Nov 11 2026. No macro, syntax, notation, axiom, sorry.
-/
import Derived.Test.YtiadjkjlifnopaaGreatDoorChecked
import GoSem.Claim
import GoSem.ClaimJoined
import GoSem.ClaimMapViews
import Derived.JoinedTies
import Derived.KernelRfl
namespace Go.Proofs.YtiadjkjlifnopaaGreatDoor
/- THE CELL 'sum', in the pinned program and in every row, IS THE sha256 OF THE DUMP (.gsa) THAT YtiadjkjlifnopaaGreatDoorProg.lean LOADS. Nothing in Lean hashes anything: it is a label: what it is worth is what the hold of that sum in a sandbox is worth. -/
noncomputable def Tryz.pinned : Pinned := { name := "ytiadjkjlifnopaagreatdoor", sum := "1ea7115ee7dc2b16f52d5fb72c6eac3fa9766df1bdc6999a9ee91d1323b13fa6", checked := Tryz.checked }
namespace Rows
def none {H : Type} : Left H := { results := [], args := [] }

/- WHAT THE LISTED PACKAGE-LEVEL VARIABLES READ AS WHEN THE CALL BEGINS. Each datum BY PROGRAM (the guide's laid-datum.mjs) off the statement by which the dump's own 'gosem.cut.vars' lays the variable. In a bare row this is a premise. The card (YtiadjkjlifnopaaGreatDoorCards.lean) ties it to the program's text. -/
def laid_math_bits_deBruijn32tab {H : Type} : DataW H := .agg [.lit (.int .u8 0), .lit (.int .u8 1), .lit (.int .u8 28), .lit (.int .u8 2), .lit (.int .u8 29), .lit (.int .u8 14), .lit (.int .u8 24), .lit (.int .u8 3), .lit (.int .u8 30), .lit (.int .u8 22), .lit (.int .u8 20), .lit (.int .u8 15), .lit (.int .u8 25), .lit (.int .u8 17), .lit (.int .u8 4), .lit (.int .u8 8), .lit (.int .u8 31), .lit (.int .u8 27), .lit (.int .u8 13), .lit (.int .u8 23), .lit (.int .u8 21), .lit (.int .u8 19), .lit (.int .u8 16), .lit (.int .u8 7), .lit (.int .u8 26), .lit (.int .u8 12), .lit (.int .u8 18), .lit (.int .u8 6), .lit (.int .u8 11), .lit (.int .u8 5), .lit (.int .u8 10), .lit (.int .u8 9)]
def laid_math_bits_deBruijn64tab {H : Type} : DataW H := .agg [.lit (.int .u8 0), .lit (.int .u8 1), .lit (.int .u8 56), .lit (.int .u8 2), .lit (.int .u8 57), .lit (.int .u8 49), .lit (.int .u8 28), .lit (.int .u8 3), .lit (.int .u8 61), .lit (.int .u8 58), .lit (.int .u8 42), .lit (.int .u8 50), .lit (.int .u8 38), .lit (.int .u8 29), .lit (.int .u8 17), .lit (.int .u8 4), .lit (.int .u8 62), .lit (.int .u8 47), .lit (.int .u8 59), .lit (.int .u8 36), .lit (.int .u8 45), .lit (.int .u8 43), .lit (.int .u8 51), .lit (.int .u8 22), .lit (.int .u8 53), .lit (.int .u8 39), .lit (.int .u8 33), .lit (.int .u8 30), .lit (.int .u8 24), .lit (.int .u8 18), .lit (.int .u8 12), .lit (.int .u8 5), .lit (.int .u8 63), .lit (.int .u8 55), .lit (.int .u8 48), .lit (.int .u8 27), .lit (.int .u8 60), .lit (.int .u8 41), .lit (.int .u8 37), .lit (.int .u8 16), .lit (.int .u8 46), .lit (.int .u8 35), .lit (.int .u8 44), .lit (.int .u8 21), .lit (.int .u8 52), .lit (.int .u8 32), .lit (.int .u8 23), .lit (.int .u8 11), .lit (.int .u8 54), .lit (.int .u8 26), .lit (.int .u8 40), .lit (.int .u8 15), .lit (.int .u8 34), .lit (.int .u8 20), .lit (.int .u8 31), .lit (.int .u8 10), .lit (.int .u8 25), .lit (.int .u8 14), .lit (.int .u8 19), .lit (.int .u8 9), .lit (.int .u8 13), .lit (.int .u8 8), .lit (.int .u8 7), .lit (.int .u8 6)]
def laid_internal_strconv_uint64pow10 {H : Type} : DataW H := .agg [.lit (.int .u64 1), .lit (.int .u64 10), .lit (.int .u64 100), .lit (.int .u64 1000), .lit (.int .u64 10000), .lit (.int .u64 100000), .lit (.int .u64 1000000), .lit (.int .u64 10000000), .lit (.int .u64 100000000), .lit (.int .u64 1000000000), .lit (.int .u64 10000000000), .lit (.int .u64 100000000000), .lit (.int .u64 1000000000000), .lit (.int .u64 10000000000000), .lit (.int .u64 100000000000000), .lit (.int .u64 1000000000000000), .lit (.int .u64 10000000000000000), .lit (.int .u64 100000000000000000), .lit (.int .u64 1000000000000000000), .lit (.int .u64 10000000000000000000)]

/-- 'foliolaw23.ScrubGroups': WHATEVER THE INPUT: true; the input reads as it did. -/
def scrubGroupsSpec : ChangeSpec := { name := "scrubGroups", fn := fun _ => fun
  | [d] => { results := [.lit (.bool true)], args := [d] }
  | _ => none }
def scrubGroupsRow : OpenClaim := { program := "ytiadjkjlifnopaagreatdoor", sum := "1ea7115ee7dc2b16f52d5fb72c6eac3fa9766df1bdc6999a9ee91d1323b13fa6", func := "folio/foliolaw23.ScrubGroups", spec := "scrubGroups", inPlace := ["maps.clone"], unfollowed := true, recurses := true, named := ["internal/strconv.uint64pow10", "math/bits.deBruijn32tab", "math/bits.deBruijn64tab"], apart := false, laid := [("math/bits.deBruijn32tab", laid_math_bits_deBruijn32tab), ("math/bits.deBruijn64tab", laid_math_bits_deBruijn64tab), ("internal/strconv.uint64pow10", laid_internal_strconv_uint64pow10)] }
def ScrubGroupsSaid : Prop := scrubGroupsRow.holds Tryz.pinned (OpenSpec.ofChange scrubGroupsSpec)

/-- ITS FALSE NEIGHBOUR: 'it returns false'. Refute it at one input. -/
def scrubGroupsWrong : ChangeSpec := { name := "scrubGroups", fn := fun _ => fun
  | [d] => { results := [.lit (.bool false)], args := [d] }
  | _ => none }
def ScrubGroupsWrongFalsely : Prop := scrubGroupsRow.holds Tryz.pinned (OpenSpec.ofChange scrubGroupsWrong)

/-- 'foliolaw23.ScrubClean': WHATEVER THE INPUT: true; the input reads as it did. -/
def scrubCleanSpec : ChangeSpec := { name := "scrubClean", fn := fun _ => fun
  | [d] => { results := [.lit (.bool true)], args := [d] }
  | _ => none }
def scrubCleanRow : OpenClaim := { program := "ytiadjkjlifnopaagreatdoor", sum := "1ea7115ee7dc2b16f52d5fb72c6eac3fa9766df1bdc6999a9ee91d1323b13fa6", func := "folio/foliolaw23.ScrubClean", spec := "scrubClean", inPlace := ["maps.clone"], unfollowed := true, recurses := true, named := ["internal/strconv.uint64pow10", "math/bits.deBruijn32tab", "math/bits.deBruijn64tab"], apart := false, laid := [("math/bits.deBruijn32tab", laid_math_bits_deBruijn32tab), ("math/bits.deBruijn64tab", laid_math_bits_deBruijn64tab), ("internal/strconv.uint64pow10", laid_internal_strconv_uint64pow10)] }
def ScrubCleanSaid : Prop := scrubCleanRow.holds Tryz.pinned (OpenSpec.ofChange scrubCleanSpec)

/-- ITS FALSE NEIGHBOUR: 'it returns false'. Refute it at one input. -/
def scrubCleanWrong : ChangeSpec := { name := "scrubClean", fn := fun _ => fun
  | [d] => { results := [.lit (.bool false)], args := [d] }
  | _ => none }
def ScrubCleanWrongFalsely : Prop := scrubCleanRow.holds Tryz.pinned (OpenSpec.ofChange scrubCleanWrong)

/-- 'foliolaw19.ManifestOld': WHATEVER THE INPUT: true; the input reads as it did. -/
def manifestOldSpec : ChangeSpec := { name := "manifestOld", fn := fun _ => fun
  | [d1, d2] => { results := [.lit (.bool true)], args := [d1, d2] }
  | _ => none }
def manifestOldRow : OpenClaim := { program := "ytiadjkjlifnopaagreatdoor", sum := "1ea7115ee7dc2b16f52d5fb72c6eac3fa9766df1bdc6999a9ee91d1323b13fa6", func := "folio/foliolaw19.ManifestOld", spec := "manifestOld", inPlace := ["maps.clone"], unfollowed := true, recurses := true, named := ["internal/strconv.uint64pow10", "math/bits.deBruijn32tab", "math/bits.deBruijn64tab"], apart := false, laid := [("math/bits.deBruijn32tab", laid_math_bits_deBruijn32tab), ("math/bits.deBruijn64tab", laid_math_bits_deBruijn64tab), ("internal/strconv.uint64pow10", laid_internal_strconv_uint64pow10)] }
def ManifestOldSaid : Prop := manifestOldRow.holds Tryz.pinned (OpenSpec.ofChange manifestOldSpec)

/-- ITS FALSE NEIGHBOUR: 'it returns false'. Refute it at one input. -/
def manifestOldWrong : ChangeSpec := { name := "manifestOld", fn := fun _ => fun
  | [d1, d2] => { results := [.lit (.bool false)], args := [d1, d2] }
  | _ => none }
def ManifestOldWrongFalsely : Prop := manifestOldRow.holds Tryz.pinned (OpenSpec.ofChange manifestOldWrong)

/-- 'foliolaw19.ManifestGrows': WHATEVER THE INPUT: true; the input reads as it did. -/
def manifestGrowsSpec : ChangeSpec := { name := "manifestGrows", fn := fun _ => fun
  | [d] => { results := [.lit (.bool true)], args := [d] }
  | _ => none }
def manifestGrowsRow : OpenClaim := { program := "ytiadjkjlifnopaagreatdoor", sum := "1ea7115ee7dc2b16f52d5fb72c6eac3fa9766df1bdc6999a9ee91d1323b13fa6", func := "folio/foliolaw19.ManifestGrows", spec := "manifestGrows", inPlace := ["maps.clone"], unfollowed := true, recurses := true, named := ["internal/strconv.uint64pow10", "math/bits.deBruijn32tab", "math/bits.deBruijn64tab"], apart := false, laid := [("math/bits.deBruijn32tab", laid_math_bits_deBruijn32tab), ("math/bits.deBruijn64tab", laid_math_bits_deBruijn64tab), ("internal/strconv.uint64pow10", laid_internal_strconv_uint64pow10)] }
def ManifestGrowsSaid : Prop := manifestGrowsRow.holds Tryz.pinned (OpenSpec.ofChange manifestGrowsSpec)

/-- ITS FALSE NEIGHBOUR: 'it returns false'. Refute it at one input. -/
def manifestGrowsWrong : ChangeSpec := { name := "manifestGrows", fn := fun _ => fun
  | [d] => { results := [.lit (.bool false)], args := [d] }
  | _ => none }
def ManifestGrowsWrongFalsely : Prop := manifestGrowsRow.holds Tryz.pinned (OpenSpec.ofChange manifestGrowsWrong)

/-- 'foliolaw19.ManifestNone': WHATEVER THE INPUT: true; the input reads as it did. -/
def manifestNoneSpec : ChangeSpec := { name := "manifestNone", fn := fun _ => fun
  | [] => { results := [.lit (.bool true)], args := [] }
  | _ => none }
def manifestNoneRow : OpenClaim := { program := "ytiadjkjlifnopaagreatdoor", sum := "1ea7115ee7dc2b16f52d5fb72c6eac3fa9766df1bdc6999a9ee91d1323b13fa6", func := "folio/foliolaw19.ManifestNone", spec := "manifestNone", inPlace := ["maps.clone"], unfollowed := true, recurses := true, named := ["internal/strconv.uint64pow10", "math/bits.deBruijn32tab", "math/bits.deBruijn64tab"], apart := false, laid := [("math/bits.deBruijn32tab", laid_math_bits_deBruijn32tab), ("math/bits.deBruijn64tab", laid_math_bits_deBruijn64tab), ("internal/strconv.uint64pow10", laid_internal_strconv_uint64pow10)] }
def ManifestNoneSaid : Prop := manifestNoneRow.holds Tryz.pinned (OpenSpec.ofChange manifestNoneSpec)

/-- ITS FALSE NEIGHBOUR: 'it returns false'. Refute it at one input. -/
def manifestNoneWrong : ChangeSpec := { name := "manifestNone", fn := fun _ => fun
  | [] => { results := [.lit (.bool false)], args := [] }
  | _ => none }
def ManifestNoneWrongFalsely : Prop := manifestNoneRow.holds Tryz.pinned (OpenSpec.ofChange manifestNoneWrong)

/-- 'foliolaw23.ScrubMake': WHATEVER THE INPUT: true; the input reads as it did. -/
def scrubMakeSpec : ChangeSpec := { name := "scrubMake", fn := fun _ => fun
  | [d1, d2] => { results := [.lit (.bool true)], args := [d1, d2] }
  | _ => none }
def scrubMakeRow : OpenClaim := { program := "ytiadjkjlifnopaagreatdoor", sum := "1ea7115ee7dc2b16f52d5fb72c6eac3fa9766df1bdc6999a9ee91d1323b13fa6", func := "folio/foliolaw23.ScrubMake", spec := "scrubMake", inPlace := ["maps.clone"], unfollowed := true, recurses := true, named := ["internal/strconv.uint64pow10", "math/bits.deBruijn32tab", "math/bits.deBruijn64tab"], apart := false, laid := [("math/bits.deBruijn32tab", laid_math_bits_deBruijn32tab), ("math/bits.deBruijn64tab", laid_math_bits_deBruijn64tab), ("internal/strconv.uint64pow10", laid_internal_strconv_uint64pow10)] }
def ScrubMakeSaid : Prop := scrubMakeRow.holds Tryz.pinned (OpenSpec.ofChange scrubMakeSpec)

/-- ITS FALSE NEIGHBOUR: 'it returns false'. Refute it at one input. -/
def scrubMakeWrong : ChangeSpec := { name := "scrubMake", fn := fun _ => fun
  | [d1, d2] => { results := [.lit (.bool false)], args := [d1, d2] }
  | _ => none }
def ScrubMakeWrongFalsely : Prop := scrubMakeRow.holds Tryz.pinned (OpenSpec.ofChange scrubMakeWrong)

/-- 'foliolaw23.ScrubFails': WHATEVER THE INPUT: true; the input reads as it did. -/
def scrubFailsSpec : ChangeSpec := { name := "scrubFails", fn := fun _ => fun
  | [d1, d2, d3, d4] => { results := [.lit (.bool true)], args := [d1, d2, d3, d4] }
  | _ => none }
def scrubFailsRow : OpenClaim := { program := "ytiadjkjlifnopaagreatdoor", sum := "1ea7115ee7dc2b16f52d5fb72c6eac3fa9766df1bdc6999a9ee91d1323b13fa6", func := "folio/foliolaw23.ScrubFails", spec := "scrubFails", inPlace := ["maps.clone"], unfollowed := true, recurses := true, named := ["internal/strconv.uint64pow10", "math/bits.deBruijn32tab", "math/bits.deBruijn64tab"], apart := false, laid := [("math/bits.deBruijn32tab", laid_math_bits_deBruijn32tab), ("math/bits.deBruijn64tab", laid_math_bits_deBruijn64tab), ("internal/strconv.uint64pow10", laid_internal_strconv_uint64pow10)] }
def ScrubFailsSaid : Prop := scrubFailsRow.holds Tryz.pinned (OpenSpec.ofChange scrubFailsSpec)

/-- ITS FALSE NEIGHBOUR: 'it returns false'. Refute it at one input. -/
def scrubFailsWrong : ChangeSpec := { name := "scrubFails", fn := fun _ => fun
  | [d1, d2, d3, d4] => { results := [.lit (.bool false)], args := [d1, d2, d3, d4] }
  | _ => none }
def ScrubFailsWrongFalsely : Prop := scrubFailsRow.holds Tryz.pinned (OpenSpec.ofChange scrubFailsWrong)

/- THE SECOND FORM. 'bulk': how many values and letters a reading holds, each counted each time it is reached (what is shared counts as often as it is met; a slice's spare places count too). A statement '..UptoSaid' is the law's where the arguments, and the package variables that the reading takes, are together of bulk at most 1048576: NARROWER than '..Said'. Prove '..Said' where nothing that the law and all that it calls make is longer than what came in: it says more and counts as full. Else prove '..UptoSaid'. A law counts once. -/
mutual
def uptoBulk {H : Type} : DataW H → Nat
  | .lit (.string bytes) => bytes.length + 1
  | .lit _ => 1
  | .nil => 1
  | .ptr d => uptoBulk d + 1
  | .slice elems spare => uptoBulkAll elems + uptoBulkAll spare + 1
  | .agg parts => uptoBulkAll parts + 1
  | .iface _ d => uptoBulk d + 1
  | .map entries => uptoBulkEntries entries + 1
  | .held _ => 1
def uptoBulkAll {H : Type} : List (DataW H) → Nat
  | [] => 0
  | d :: r => uptoBulk d + uptoBulkAll r
def uptoBulkEntries {H : Type} : List (Lit × DataW H) → Nat
  | [] => 0
  | x :: r => uptoBulkEntry x + uptoBulkEntries r
def uptoBulkEntry {H : Type} : Lit × DataW H → Nat
  | (.string bytes, d) => bytes.length + uptoBulk d + 1
  | (_, d) => uptoBulk d + 1
 end
def uptoSmall : (H : Type) → List (DataW H) → Bool := fun _ ds => decide (uptoBulkAll ds ≤ 1048576)
def OpenSpec.upto (s : _root_.Go.ChangeSpec) : _root_.Go.OpenSpec := { _root_.Go.OpenSpec.ofChange s with cond := some uptoSmall }

/-- 'foliolaw23.ScrubGroups', WHERE WHAT IT READS IS OF BULK AT MOST 1048576: true; the input reads as it did. -/
def scrubGroupsUptoRow : OpenClaim := { program := "ytiadjkjlifnopaagreatdoor", sum := "1ea7115ee7dc2b16f52d5fb72c6eac3fa9766df1bdc6999a9ee91d1323b13fa6", func := "folio/foliolaw23.ScrubGroups", spec := "scrubGroups", inPlace := ["maps.clone"], unfollowed := true, recurses := true, named := ["internal/strconv.uint64pow10", "math/bits.deBruijn32tab", "math/bits.deBruijn64tab"], apart := false, laid := [("math/bits.deBruijn32tab", laid_math_bits_deBruijn32tab), ("math/bits.deBruijn64tab", laid_math_bits_deBruijn64tab), ("internal/strconv.uint64pow10", laid_internal_strconv_uint64pow10)], narrowed := true }
def ScrubGroupsUptoSaid : Prop := scrubGroupsUptoRow.holds Tryz.pinned (OpenSpec.upto scrubGroupsSpec)

/-- 'foliolaw23.ScrubClean', WHERE WHAT IT READS IS OF BULK AT MOST 1048576: true; the input reads as it did. -/
def scrubCleanUptoRow : OpenClaim := { program := "ytiadjkjlifnopaagreatdoor", sum := "1ea7115ee7dc2b16f52d5fb72c6eac3fa9766df1bdc6999a9ee91d1323b13fa6", func := "folio/foliolaw23.ScrubClean", spec := "scrubClean", inPlace := ["maps.clone"], unfollowed := true, recurses := true, named := ["internal/strconv.uint64pow10", "math/bits.deBruijn32tab", "math/bits.deBruijn64tab"], apart := false, laid := [("math/bits.deBruijn32tab", laid_math_bits_deBruijn32tab), ("math/bits.deBruijn64tab", laid_math_bits_deBruijn64tab), ("internal/strconv.uint64pow10", laid_internal_strconv_uint64pow10)], narrowed := true }
def ScrubCleanUptoSaid : Prop := scrubCleanUptoRow.holds Tryz.pinned (OpenSpec.upto scrubCleanSpec)

/-- 'foliolaw19.ManifestOld', WHERE WHAT IT READS IS OF BULK AT MOST 1048576: true; the input reads as it did. -/
def manifestOldUptoRow : OpenClaim := { program := "ytiadjkjlifnopaagreatdoor", sum := "1ea7115ee7dc2b16f52d5fb72c6eac3fa9766df1bdc6999a9ee91d1323b13fa6", func := "folio/foliolaw19.ManifestOld", spec := "manifestOld", inPlace := ["maps.clone"], unfollowed := true, recurses := true, named := ["internal/strconv.uint64pow10", "math/bits.deBruijn32tab", "math/bits.deBruijn64tab"], apart := false, laid := [("math/bits.deBruijn32tab", laid_math_bits_deBruijn32tab), ("math/bits.deBruijn64tab", laid_math_bits_deBruijn64tab), ("internal/strconv.uint64pow10", laid_internal_strconv_uint64pow10)], narrowed := true }
def ManifestOldUptoSaid : Prop := manifestOldUptoRow.holds Tryz.pinned (OpenSpec.upto manifestOldSpec)

/-- 'foliolaw19.ManifestGrows', WHERE WHAT IT READS IS OF BULK AT MOST 1048576: true; the input reads as it did. -/
def manifestGrowsUptoRow : OpenClaim := { program := "ytiadjkjlifnopaagreatdoor", sum := "1ea7115ee7dc2b16f52d5fb72c6eac3fa9766df1bdc6999a9ee91d1323b13fa6", func := "folio/foliolaw19.ManifestGrows", spec := "manifestGrows", inPlace := ["maps.clone"], unfollowed := true, recurses := true, named := ["internal/strconv.uint64pow10", "math/bits.deBruijn32tab", "math/bits.deBruijn64tab"], apart := false, laid := [("math/bits.deBruijn32tab", laid_math_bits_deBruijn32tab), ("math/bits.deBruijn64tab", laid_math_bits_deBruijn64tab), ("internal/strconv.uint64pow10", laid_internal_strconv_uint64pow10)], narrowed := true }
def ManifestGrowsUptoSaid : Prop := manifestGrowsUptoRow.holds Tryz.pinned (OpenSpec.upto manifestGrowsSpec)

/-- 'foliolaw19.ManifestNone', WHERE WHAT IT READS IS OF BULK AT MOST 1048576: true; the input reads as it did. -/
def manifestNoneUptoRow : OpenClaim := { program := "ytiadjkjlifnopaagreatdoor", sum := "1ea7115ee7dc2b16f52d5fb72c6eac3fa9766df1bdc6999a9ee91d1323b13fa6", func := "folio/foliolaw19.ManifestNone", spec := "manifestNone", inPlace := ["maps.clone"], unfollowed := true, recurses := true, named := ["internal/strconv.uint64pow10", "math/bits.deBruijn32tab", "math/bits.deBruijn64tab"], apart := false, laid := [("math/bits.deBruijn32tab", laid_math_bits_deBruijn32tab), ("math/bits.deBruijn64tab", laid_math_bits_deBruijn64tab), ("internal/strconv.uint64pow10", laid_internal_strconv_uint64pow10)], narrowed := true }
def ManifestNoneUptoSaid : Prop := manifestNoneUptoRow.holds Tryz.pinned (OpenSpec.upto manifestNoneSpec)

/-- 'foliolaw23.ScrubMake', WHERE WHAT IT READS IS OF BULK AT MOST 1048576: true; the input reads as it did. -/
def scrubMakeUptoRow : OpenClaim := { program := "ytiadjkjlifnopaagreatdoor", sum := "1ea7115ee7dc2b16f52d5fb72c6eac3fa9766df1bdc6999a9ee91d1323b13fa6", func := "folio/foliolaw23.ScrubMake", spec := "scrubMake", inPlace := ["maps.clone"], unfollowed := true, recurses := true, named := ["internal/strconv.uint64pow10", "math/bits.deBruijn32tab", "math/bits.deBruijn64tab"], apart := false, laid := [("math/bits.deBruijn32tab", laid_math_bits_deBruijn32tab), ("math/bits.deBruijn64tab", laid_math_bits_deBruijn64tab), ("internal/strconv.uint64pow10", laid_internal_strconv_uint64pow10)], narrowed := true }
def ScrubMakeUptoSaid : Prop := scrubMakeUptoRow.holds Tryz.pinned (OpenSpec.upto scrubMakeSpec)

/-- 'foliolaw23.ScrubFails', WHERE WHAT IT READS IS OF BULK AT MOST 1048576: true; the input reads as it did. -/
def scrubFailsUptoRow : OpenClaim := { program := "ytiadjkjlifnopaagreatdoor", sum := "1ea7115ee7dc2b16f52d5fb72c6eac3fa9766df1bdc6999a9ee91d1323b13fa6", func := "folio/foliolaw23.ScrubFails", spec := "scrubFails", inPlace := ["maps.clone"], unfollowed := true, recurses := true, named := ["internal/strconv.uint64pow10", "math/bits.deBruijn32tab", "math/bits.deBruijn64tab"], apart := false, laid := [("math/bits.deBruijn32tab", laid_math_bits_deBruijn32tab), ("math/bits.deBruijn64tab", laid_math_bits_deBruijn64tab), ("internal/strconv.uint64pow10", laid_internal_strconv_uint64pow10)], narrowed := true }
def ScrubFailsUptoSaid : Prop := scrubFailsUptoRow.holds Tryz.pinned (OpenSpec.upto scrubFailsSpec)

end Rows
end Go.Proofs.YtiadjkjlifnopaaGreatDoor
