/-
  No cell of these rows narrows 'for every input' (looked for: loops, veiled, ifaces, maps, wideKeys, modest, calm, conditions, laid).
  DERIVED. THE GIVEN ROWS OF THIS SEAT. 19 by the template 'for every input the law returns true; each argument reads behind the call as it read before'; 0 by the template 'total and deterministic' (their statements: YtiokkoeciijkoaaTotals.lean).
  GIVEN WITH THE SEED: the statements are not yours to turn. If you find one false, say at which input.
  Laid BY PROGRAM, IN A SANDBOX (cutbox-rows.mjs): the forced cells as the released guide's own fill.sh prints them over the translation bd839dd34d742283… (all of the seat's roots in one cut). By AI agents, Wed Nov 11 2026. No macro, syntax, notation, axiom, sorry.
-/
import Derived.Test.YtiokkoeciijkoaaChecked
import GoSem.Claim
import GoSem.ClaimJoined
import GoSem.ClaimMapViews
import Derived.JoinedTies
import Derived.KernelRfl
namespace Go.Proofs.Ytiokkoeciijkoaa
/- THE CELL 'sum', in the pinned program and in every row, IS THE sha256 OF THE DUMP (.gsa) THAT YtiokkoeciijkoaaProg.lean LOADS. Nothing in Lean hashes anything: it is a label: what it is worth is what the hold of that sum in a sandbox is worth. -/
noncomputable def Try.pinned : Pinned := { name := "ytiokkoeciijkoaa", sum := "bd839dd34d742283df79cdaf048a2bd9c031ac10dbd972b087a83f6dbce395f3", checked := Try.checked }
namespace Rows
def none {H : Type} : Left H := { results := [], args := [] }

/-- 'commonslaw6.SpanFew': WHATEVER THE INPUT: true; the input reads as it did. -/
def spanFewSpec : ChangeSpec := { name := "spanFew", fn := fun _ => fun
  | [d1, d2] => { results := [.lit (.bool true)], args := [d1, d2] }
  | _ => none }
def spanFewRow : OpenClaim := { program := "ytiokkoeciijkoaa", sum := "bd839dd34d742283df79cdaf048a2bd9c031ac10dbd972b087a83f6dbce395f3", func := "commons/commonslaw6.SpanFew", spec := "spanFew", unfollowed := true, recurses := true, apart := false }
def SpanFewSaid : Prop := spanFewRow.holds Try.pinned (OpenSpec.ofChange spanFewSpec)

/-- ITS FALSE NEIGHBOUR: 'it returns false'. Refute it at one input. -/
def spanFewWrong : ChangeSpec := { name := "spanFew", fn := fun _ => fun
  | [d1, d2] => { results := [.lit (.bool false)], args := [d1, d2] }
  | _ => none }
def SpanFewWrongFalsely : Prop := spanFewRow.holds Try.pinned (OpenSpec.ofChange spanFewWrong)

/-- 'commonslaw6.SpanMeets': WHATEVER THE INPUT: true; the input reads as it did. -/
def spanMeetsSpec : ChangeSpec := { name := "spanMeets", fn := fun _ => fun
  | [d1, d2, d3] => { results := [.lit (.bool true)], args := [d1, d2, d3] }
  | _ => none }
def spanMeetsRow : OpenClaim := { program := "ytiokkoeciijkoaa", sum := "bd839dd34d742283df79cdaf048a2bd9c031ac10dbd972b087a83f6dbce395f3", func := "commons/commonslaw6.SpanMeets", spec := "spanMeets", unfollowed := true, recurses := true, apart := false }
def SpanMeetsSaid : Prop := spanMeetsRow.holds Try.pinned (OpenSpec.ofChange spanMeetsSpec)

/-- ITS FALSE NEIGHBOUR: 'it returns false'. Refute it at one input. -/
def spanMeetsWrong : ChangeSpec := { name := "spanMeets", fn := fun _ => fun
  | [d1, d2, d3] => { results := [.lit (.bool false)], args := [d1, d2, d3] }
  | _ => none }
def SpanMeetsWrongFalsely : Prop := spanMeetsRow.holds Try.pinned (OpenSpec.ofChange spanMeetsWrong)

/-- 'commonslaw6.SpanBlocks': WHATEVER THE INPUT: true; the input reads as it did. -/
def spanBlocksSpec : ChangeSpec := { name := "spanBlocks", fn := fun _ => fun
  | [d1, d2] => { results := [.lit (.bool true)], args := [d1, d2] }
  | _ => none }
def spanBlocksRow : OpenClaim := { program := "ytiokkoeciijkoaa", sum := "bd839dd34d742283df79cdaf048a2bd9c031ac10dbd972b087a83f6dbce395f3", func := "commons/commonslaw6.SpanBlocks", spec := "spanBlocks", unfollowed := true, recurses := true, apart := false }
def SpanBlocksSaid : Prop := spanBlocksRow.holds Try.pinned (OpenSpec.ofChange spanBlocksSpec)

/-- ITS FALSE NEIGHBOUR: 'it returns false'. Refute it at one input. -/
def spanBlocksWrong : ChangeSpec := { name := "spanBlocks", fn := fun _ => fun
  | [d1, d2] => { results := [.lit (.bool false)], args := [d1, d2] }
  | _ => none }
def SpanBlocksWrongFalsely : Prop := spanBlocksRow.holds Try.pinned (OpenSpec.ofChange spanBlocksWrong)

/-- 'commonslaw6.SpanJoins': WHATEVER THE INPUT: true; the input reads as it did. -/
def spanJoinsSpec : ChangeSpec := { name := "spanJoins", fn := fun _ => fun
  | [d1, d2, d3, d4] => { results := [.lit (.bool true)], args := [d1, d2, d3, d4] }
  | _ => none }
def spanJoinsRow : OpenClaim := { program := "ytiokkoeciijkoaa", sum := "bd839dd34d742283df79cdaf048a2bd9c031ac10dbd972b087a83f6dbce395f3", func := "commons/commonslaw6.SpanJoins", spec := "spanJoins", unfollowed := true, recurses := true, apart := false }
def SpanJoinsSaid : Prop := spanJoinsRow.holds Try.pinned (OpenSpec.ofChange spanJoinsSpec)

/-- ITS FALSE NEIGHBOUR: 'it returns false'. Refute it at one input. -/
def spanJoinsWrong : ChangeSpec := { name := "spanJoins", fn := fun _ => fun
  | [d1, d2, d3, d4] => { results := [.lit (.bool false)], args := [d1, d2, d3, d4] }
  | _ => none }
def SpanJoinsWrongFalsely : Prop := spanJoinsRow.holds Try.pinned (OpenSpec.ofChange spanJoinsWrong)

/-- 'commonslaw7.ImapLast': WHATEVER THE INPUT: true; the input reads as it did. -/
def imapLastSpec : ChangeSpec := { name := "imapLast", fn := fun _ => fun
  | [d1, d2] => { results := [.lit (.bool true)], args := [d1, d2] }
  | _ => none }
def imapLastRow : OpenClaim := { program := "ytiokkoeciijkoaa", sum := "bd839dd34d742283df79cdaf048a2bd9c031ac10dbd972b087a83f6dbce395f3", func := "commons/commonslaw7.ImapLast", spec := "imapLast", unfollowed := true, recurses := true, apart := false }
def ImapLastSaid : Prop := imapLastRow.holds Try.pinned (OpenSpec.ofChange imapLastSpec)

/-- ITS FALSE NEIGHBOUR: 'it returns false'. Refute it at one input. -/
def imapLastWrong : ChangeSpec := { name := "imapLast", fn := fun _ => fun
  | [d1, d2] => { results := [.lit (.bool false)], args := [d1, d2] }
  | _ => none }
def ImapLastWrongFalsely : Prop := imapLastRow.holds Try.pinned (OpenSpec.ofChange imapLastWrong)

/-- 'commonslaw7.ImapParts': WHATEVER THE INPUT: true; the input reads as it did. -/
def imapPartsSpec : ChangeSpec := { name := "imapParts", fn := fun _ => fun
  | [d1, d2, d3, d4] => { results := [.lit (.bool true)], args := [d1, d2, d3, d4] }
  | _ => none }
def imapPartsRow : OpenClaim := { program := "ytiokkoeciijkoaa", sum := "bd839dd34d742283df79cdaf048a2bd9c031ac10dbd972b087a83f6dbce395f3", func := "commons/commonslaw7.ImapParts", spec := "imapParts", unfollowed := true, recurses := true, apart := false }
def ImapPartsSaid : Prop := imapPartsRow.holds Try.pinned (OpenSpec.ofChange imapPartsSpec)

/-- ITS FALSE NEIGHBOUR: 'it returns false'. Refute it at one input. -/
def imapPartsWrong : ChangeSpec := { name := "imapParts", fn := fun _ => fun
  | [d1, d2, d3, d4] => { results := [.lit (.bool false)], args := [d1, d2, d3, d4] }
  | _ => none }
def ImapPartsWrongFalsely : Prop := imapPartsRow.holds Try.pinned (OpenSpec.ofChange imapPartsWrong)

/-- 'commonslaw7.ImapWith': WHATEVER THE INPUT: true; the input reads as it did. -/
def imapWithSpec : ChangeSpec := { name := "imapWith", fn := fun _ => fun
  | [d1, d2, d3] => { results := [.lit (.bool true)], args := [d1, d2, d3] }
  | _ => none }
def imapWithRow : OpenClaim := { program := "ytiokkoeciijkoaa", sum := "bd839dd34d742283df79cdaf048a2bd9c031ac10dbd972b087a83f6dbce395f3", func := "commons/commonslaw7.ImapWith", spec := "imapWith", unfollowed := true, recurses := true, apart := false }
def ImapWithSaid : Prop := imapWithRow.holds Try.pinned (OpenSpec.ofChange imapWithSpec)

/-- ITS FALSE NEIGHBOUR: 'it returns false'. Refute it at one input. -/
def imapWithWrong : ChangeSpec := { name := "imapWith", fn := fun _ => fun
  | [d1, d2, d3] => { results := [.lit (.bool false)], args := [d1, d2, d3] }
  | _ => none }
def ImapWithWrongFalsely : Prop := imapWithRow.holds Try.pinned (OpenSpec.ofChange imapWithWrong)

/-- 'commonslaw7.ImapSwaps': WHATEVER THE INPUT: true; the input reads as it did. -/
def imapSwapsSpec : ChangeSpec := { name := "imapSwaps", fn := fun _ => fun
  | [d1, d2, d3, d4] => { results := [.lit (.bool true)], args := [d1, d2, d3, d4] }
  | _ => none }
def imapSwapsRow : OpenClaim := { program := "ytiokkoeciijkoaa", sum := "bd839dd34d742283df79cdaf048a2bd9c031ac10dbd972b087a83f6dbce395f3", func := "commons/commonslaw7.ImapSwaps", spec := "imapSwaps", unfollowed := true, recurses := true, apart := false }
def ImapSwapsSaid : Prop := imapSwapsRow.holds Try.pinned (OpenSpec.ofChange imapSwapsSpec)

/-- ITS FALSE NEIGHBOUR: 'it returns false'. Refute it at one input. -/
def imapSwapsWrong : ChangeSpec := { name := "imapSwaps", fn := fun _ => fun
  | [d1, d2, d3, d4] => { results := [.lit (.bool false)], args := [d1, d2, d3, d4] }
  | _ => none }
def ImapSwapsWrongFalsely : Prop := imapSwapsRow.holds Try.pinned (OpenSpec.ofChange imapSwapsWrong)

/-- 'commonslaw7.ImapNone': WHATEVER THE INPUT: true; the input reads as it did. -/
def imapNoneSpec : ChangeSpec := { name := "imapNone", fn := fun _ => fun
  | [d1, d2] => { results := [.lit (.bool true)], args := [d1, d2] }
  | _ => none }
def imapNoneRow : OpenClaim := { program := "ytiokkoeciijkoaa", sum := "bd839dd34d742283df79cdaf048a2bd9c031ac10dbd972b087a83f6dbce395f3", func := "commons/commonslaw7.ImapNone", spec := "imapNone", unfollowed := true, recurses := true, apart := false }
def ImapNoneSaid : Prop := imapNoneRow.holds Try.pinned (OpenSpec.ofChange imapNoneSpec)

/-- ITS FALSE NEIGHBOUR: 'it returns false'. Refute it at one input. -/
def imapNoneWrong : ChangeSpec := { name := "imapNone", fn := fun _ => fun
  | [d1, d2] => { results := [.lit (.bool false)], args := [d1, d2] }
  | _ => none }
def ImapNoneWrongFalsely : Prop := imapNoneRow.holds Try.pinned (OpenSpec.ofChange imapNoneWrong)

/-- 'commonslaw17.ModeNorms': WHATEVER THE INPUT: true; the input reads as it did. -/
def modeNormsSpec : ChangeSpec := { name := "modeNorms", fn := fun _ => fun
  | [d1, d2] => { results := [.lit (.bool true)], args := [d1, d2] }
  | _ => none }
def modeNormsRow : OpenClaim := { program := "ytiokkoeciijkoaa", sum := "bd839dd34d742283df79cdaf048a2bd9c031ac10dbd972b087a83f6dbce395f3", func := "commons/commonslaw17.ModeNorms", spec := "modeNorms", unfollowed := true, recurses := true, apart := false }
def ModeNormsSaid : Prop := modeNormsRow.holds Try.pinned (OpenSpec.ofChange modeNormsSpec)

/-- ITS FALSE NEIGHBOUR: 'it returns false'. Refute it at one input. -/
def modeNormsWrong : ChangeSpec := { name := "modeNorms", fn := fun _ => fun
  | [d1, d2] => { results := [.lit (.bool false)], args := [d1, d2] }
  | _ => none }
def ModeNormsWrongFalsely : Prop := modeNormsRow.holds Try.pinned (OpenSpec.ofChange modeNormsWrong)

/-- 'commonslaw17.ModeTells': WHATEVER THE INPUT: true; the input reads as it did. -/
def modeTellsSpec : ChangeSpec := { name := "modeTells", fn := fun _ => fun
  | [d1, d2, d3] => { results := [.lit (.bool true)], args := [d1, d2, d3] }
  | _ => none }
def modeTellsRow : OpenClaim := { program := "ytiokkoeciijkoaa", sum := "bd839dd34d742283df79cdaf048a2bd9c031ac10dbd972b087a83f6dbce395f3", func := "commons/commonslaw17.ModeTells", spec := "modeTells", unfollowed := true, recurses := true, apart := false }
def ModeTellsSaid : Prop := modeTellsRow.holds Try.pinned (OpenSpec.ofChange modeTellsSpec)

/-- ITS FALSE NEIGHBOUR: 'it returns false'. Refute it at one input. -/
def modeTellsWrong : ChangeSpec := { name := "modeTells", fn := fun _ => fun
  | [d1, d2, d3] => { results := [.lit (.bool false)], args := [d1, d2, d3] }
  | _ => none }
def ModeTellsWrongFalsely : Prop := modeTellsRow.holds Try.pinned (OpenSpec.ofChange modeTellsWrong)

/-- 'commonslaw17.ModeOrder': WHATEVER THE INPUT: true; the input reads as it did. -/
def modeOrderSpec : ChangeSpec := { name := "modeOrder", fn := fun _ => fun
  | [d1, d2, d3] => { results := [.lit (.bool true)], args := [d1, d2, d3] }
  | _ => none }
def modeOrderRow : OpenClaim := { program := "ytiokkoeciijkoaa", sum := "bd839dd34d742283df79cdaf048a2bd9c031ac10dbd972b087a83f6dbce395f3", func := "commons/commonslaw17.ModeOrder", spec := "modeOrder", unfollowed := true, recurses := true, apart := false }
def ModeOrderSaid : Prop := modeOrderRow.holds Try.pinned (OpenSpec.ofChange modeOrderSpec)

/-- ITS FALSE NEIGHBOUR: 'it returns false'. Refute it at one input. -/
def modeOrderWrong : ChangeSpec := { name := "modeOrder", fn := fun _ => fun
  | [d1, d2, d3] => { results := [.lit (.bool false)], args := [d1, d2, d3] }
  | _ => none }
def ModeOrderWrongFalsely : Prop := modeOrderRow.holds Try.pinned (OpenSpec.ofChange modeOrderWrong)

/-- 'commonslaw17.ModeNone': WHATEVER THE INPUT: true; the input reads as it did. -/
def modeNoneSpec : ChangeSpec := { name := "modeNone", fn := fun _ => fun
  | [d] => { results := [.lit (.bool true)], args := [d] }
  | _ => none }
def modeNoneRow : OpenClaim := { program := "ytiokkoeciijkoaa", sum := "bd839dd34d742283df79cdaf048a2bd9c031ac10dbd972b087a83f6dbce395f3", func := "commons/commonslaw17.ModeNone", spec := "modeNone", unfollowed := true, recurses := true, apart := false }
def ModeNoneSaid : Prop := modeNoneRow.holds Try.pinned (OpenSpec.ofChange modeNoneSpec)

/-- ITS FALSE NEIGHBOUR: 'it returns false'. Refute it at one input. -/
def modeNoneWrong : ChangeSpec := { name := "modeNone", fn := fun _ => fun
  | [d] => { results := [.lit (.bool false)], args := [d] }
  | _ => none }
def ModeNoneWrongFalsely : Prop := modeNoneRow.holds Try.pinned (OpenSpec.ofChange modeNoneWrong)

/-- 'commonslaw17.ModeGives': WHATEVER THE INPUT: true; the input reads as it did. -/
def modeGivesSpec : ChangeSpec := { name := "modeGives", fn := fun _ => fun
  | [d1, d2] => { results := [.lit (.bool true)], args := [d1, d2] }
  | _ => none }
def modeGivesRow : OpenClaim := { program := "ytiokkoeciijkoaa", sum := "bd839dd34d742283df79cdaf048a2bd9c031ac10dbd972b087a83f6dbce395f3", func := "commons/commonslaw17.ModeGives", spec := "modeGives", unfollowed := true, recurses := true, apart := false }
def ModeGivesSaid : Prop := modeGivesRow.holds Try.pinned (OpenSpec.ofChange modeGivesSpec)

/-- ITS FALSE NEIGHBOUR: 'it returns false'. Refute it at one input. -/
def modeGivesWrong : ChangeSpec := { name := "modeGives", fn := fun _ => fun
  | [d1, d2] => { results := [.lit (.bool false)], args := [d1, d2] }
  | _ => none }
def ModeGivesWrongFalsely : Prop := modeGivesRow.holds Try.pinned (OpenSpec.ofChange modeGivesWrong)

/-- 'commonslaw18.TableUpgrades': WHATEVER THE INPUT: true; the input reads as it did. -/
def tableUpgradesSpec : ChangeSpec := { name := "tableUpgrades", fn := fun _ => fun
  | [d1, d2] => { results := [.lit (.bool true)], args := [d1, d2] }
  | _ => none }
def tableUpgradesRow : OpenClaim := { program := "ytiokkoeciijkoaa", sum := "bd839dd34d742283df79cdaf048a2bd9c031ac10dbd972b087a83f6dbce395f3", func := "commons/commonslaw18.TableUpgrades", spec := "tableUpgrades", unfollowed := true, recurses := true, apart := false }
def TableUpgradesSaid : Prop := tableUpgradesRow.holds Try.pinned (OpenSpec.ofChange tableUpgradesSpec)

/-- ITS FALSE NEIGHBOUR: 'it returns false'. Refute it at one input. -/
def tableUpgradesWrong : ChangeSpec := { name := "tableUpgrades", fn := fun _ => fun
  | [d1, d2] => { results := [.lit (.bool false)], args := [d1, d2] }
  | _ => none }
def TableUpgradesWrongFalsely : Prop := tableUpgradesRow.holds Try.pinned (OpenSpec.ofChange tableUpgradesWrong)

/-- 'commonslaw18.TableClaims': WHATEVER THE INPUT: true; the input reads as it did. -/
def tableClaimsSpec : ChangeSpec := { name := "tableClaims", fn := fun _ => fun
  | [d1, d2, d3] => { results := [.lit (.bool true)], args := [d1, d2, d3] }
  | _ => none }
def tableClaimsRow : OpenClaim := { program := "ytiokkoeciijkoaa", sum := "bd839dd34d742283df79cdaf048a2bd9c031ac10dbd972b087a83f6dbce395f3", func := "commons/commonslaw18.TableClaims", spec := "tableClaims", unfollowed := true, recurses := true, apart := false }
def TableClaimsSaid : Prop := tableClaimsRow.holds Try.pinned (OpenSpec.ofChange tableClaimsSpec)

/-- ITS FALSE NEIGHBOUR: 'it returns false'. Refute it at one input. -/
def tableClaimsWrong : ChangeSpec := { name := "tableClaims", fn := fun _ => fun
  | [d1, d2, d3] => { results := [.lit (.bool false)], args := [d1, d2, d3] }
  | _ => none }
def TableClaimsWrongFalsely : Prop := tableClaimsRow.holds Try.pinned (OpenSpec.ofChange tableClaimsWrong)

/-- 'commonslaw18.TableFair': WHATEVER THE INPUT: true; the input reads as it did. -/
def tableFairSpec : ChangeSpec := { name := "tableFair", fn := fun _ => fun
  | [d1, d2] => { results := [.lit (.bool true)], args := [d1, d2] }
  | _ => none }
def tableFairRow : OpenClaim := { program := "ytiokkoeciijkoaa", sum := "bd839dd34d742283df79cdaf048a2bd9c031ac10dbd972b087a83f6dbce395f3", func := "commons/commonslaw18.TableFair", spec := "tableFair", unfollowed := true, recurses := true, apart := false }
def TableFairSaid : Prop := tableFairRow.holds Try.pinned (OpenSpec.ofChange tableFairSpec)

/-- ITS FALSE NEIGHBOUR: 'it returns false'. Refute it at one input. -/
def tableFairWrong : ChangeSpec := { name := "tableFair", fn := fun _ => fun
  | [d1, d2] => { results := [.lit (.bool false)], args := [d1, d2] }
  | _ => none }
def TableFairWrongFalsely : Prop := tableFairRow.holds Try.pinned (OpenSpec.ofChange tableFairWrong)

/-- 'commonslaw18.TableKeeps': WHATEVER THE INPUT: true; the input reads as it did. -/
def tableKeepsSpec : ChangeSpec := { name := "tableKeeps", fn := fun _ => fun
  | [d1, d2, d3, d4] => { results := [.lit (.bool true)], args := [d1, d2, d3, d4] }
  | _ => none }
def tableKeepsRow : OpenClaim := { program := "ytiokkoeciijkoaa", sum := "bd839dd34d742283df79cdaf048a2bd9c031ac10dbd972b087a83f6dbce395f3", func := "commons/commonslaw18.TableKeeps", spec := "tableKeeps", unfollowed := true, recurses := true, apart := false }
def TableKeepsSaid : Prop := tableKeepsRow.holds Try.pinned (OpenSpec.ofChange tableKeepsSpec)

/-- ITS FALSE NEIGHBOUR: 'it returns false'. Refute it at one input. -/
def tableKeepsWrong : ChangeSpec := { name := "tableKeeps", fn := fun _ => fun
  | [d1, d2, d3, d4] => { results := [.lit (.bool false)], args := [d1, d2, d3, d4] }
  | _ => none }
def TableKeepsWrongFalsely : Prop := tableKeepsRow.holds Try.pinned (OpenSpec.ofChange tableKeepsWrong)

/-- 'commonslaw18.TableNone': WHATEVER THE INPUT: true; the input reads as it did. -/
def tableNoneSpec : ChangeSpec := { name := "tableNone", fn := fun _ => fun
  | [d1, d2] => { results := [.lit (.bool true)], args := [d1, d2] }
  | _ => none }
def tableNoneRow : OpenClaim := { program := "ytiokkoeciijkoaa", sum := "bd839dd34d742283df79cdaf048a2bd9c031ac10dbd972b087a83f6dbce395f3", func := "commons/commonslaw18.TableNone", spec := "tableNone", unfollowed := true, recurses := true, apart := false }
def TableNoneSaid : Prop := tableNoneRow.holds Try.pinned (OpenSpec.ofChange tableNoneSpec)

/-- ITS FALSE NEIGHBOUR: 'it returns false'. Refute it at one input. -/
def tableNoneWrong : ChangeSpec := { name := "tableNone", fn := fun _ => fun
  | [d1, d2] => { results := [.lit (.bool false)], args := [d1, d2] }
  | _ => none }
def TableNoneWrongFalsely : Prop := tableNoneRow.holds Try.pinned (OpenSpec.ofChange tableNoneWrong)

/- THE SECOND FORM. 'bulk': how many values and letters a reading holds, each counted each time it is reached (what is shared counts as often as it is met; a slice's spare places count too). A statement '..UptoSaid' is the law's where the arguments, and the package variables that the reading takes, are together of bulk at most 1048576: NARROWER than '..Said'. Prove '..Said' where nothing that the law and all that it calls make is longer than what came in: it says more and counts as full. Else prove '..UptoSaid'. A law counts once. -/
mutual
def uptoBulk {H : Type} : DataW H → Nat
  | .lit (.string bytes) => bytes.length + 1
  | .lit _ => 1
  | .nil => 1
  | .ptr d => uptoBulk d + 1
  | .slice elems spare => uptoBulkAll elems + uptoBulkAll spare + 1
  | .agg parts => uptoBulkAll parts + 1
  | .iface _ d => uptoBulk d + 1
  | .map entries => uptoBulkEntries entries + 1
  | .held _ => 1
def uptoBulkAll {H : Type} : List (DataW H) → Nat
  | [] => 0
  | d :: r => uptoBulk d + uptoBulkAll r
def uptoBulkEntries {H : Type} : List (Lit × DataW H) → Nat
  | [] => 0
  | x :: r => uptoBulkEntry x + uptoBulkEntries r
def uptoBulkEntry {H : Type} : Lit × DataW H → Nat
  | (.string bytes, d) => bytes.length + uptoBulk d + 1
  | (_, d) => uptoBulk d + 1
 end
def uptoSmall : (H : Type) → List (DataW H) → Bool := fun _ ds => decide (uptoBulkAll ds ≤ 1048576)
def OpenSpec.upto (s : _root_.Go.ChangeSpec) : _root_.Go.OpenSpec := { _root_.Go.OpenSpec.ofChange s with cond := some uptoSmall }

/-- 'commonslaw6.SpanFew', WHERE WHAT IT READS IS OF BULK AT MOST 1048576: true; the input reads as it did. -/
def spanFewUptoRow : OpenClaim := { program := "ytiokkoeciijkoaa", sum := "bd839dd34d742283df79cdaf048a2bd9c031ac10dbd972b087a83f6dbce395f3", func := "commons/commonslaw6.SpanFew", spec := "spanFew", unfollowed := true, recurses := true, apart := false, narrowed := true }
def SpanFewUptoSaid : Prop := spanFewUptoRow.holds Try.pinned (OpenSpec.upto spanFewSpec)

/-- 'commonslaw6.SpanMeets', WHERE WHAT IT READS IS OF BULK AT MOST 1048576: true; the input reads as it did. -/
def spanMeetsUptoRow : OpenClaim := { program := "ytiokkoeciijkoaa", sum := "bd839dd34d742283df79cdaf048a2bd9c031ac10dbd972b087a83f6dbce395f3", func := "commons/commonslaw6.SpanMeets", spec := "spanMeets", unfollowed := true, recurses := true, apart := false, narrowed := true }
def SpanMeetsUptoSaid : Prop := spanMeetsUptoRow.holds Try.pinned (OpenSpec.upto spanMeetsSpec)

/-- 'commonslaw6.SpanBlocks', WHERE WHAT IT READS IS OF BULK AT MOST 1048576: true; the input reads as it did. -/
def spanBlocksUptoRow : OpenClaim := { program := "ytiokkoeciijkoaa", sum := "bd839dd34d742283df79cdaf048a2bd9c031ac10dbd972b087a83f6dbce395f3", func := "commons/commonslaw6.SpanBlocks", spec := "spanBlocks", unfollowed := true, recurses := true, apart := false, narrowed := true }
def SpanBlocksUptoSaid : Prop := spanBlocksUptoRow.holds Try.pinned (OpenSpec.upto spanBlocksSpec)

/-- 'commonslaw6.SpanJoins', WHERE WHAT IT READS IS OF BULK AT MOST 1048576: true; the input reads as it did. -/
def spanJoinsUptoRow : OpenClaim := { program := "ytiokkoeciijkoaa", sum := "bd839dd34d742283df79cdaf048a2bd9c031ac10dbd972b087a83f6dbce395f3", func := "commons/commonslaw6.SpanJoins", spec := "spanJoins", unfollowed := true, recurses := true, apart := false, narrowed := true }
def SpanJoinsUptoSaid : Prop := spanJoinsUptoRow.holds Try.pinned (OpenSpec.upto spanJoinsSpec)

/-- 'commonslaw7.ImapLast', WHERE WHAT IT READS IS OF BULK AT MOST 1048576: true; the input reads as it did. -/
def imapLastUptoRow : OpenClaim := { program := "ytiokkoeciijkoaa", sum := "bd839dd34d742283df79cdaf048a2bd9c031ac10dbd972b087a83f6dbce395f3", func := "commons/commonslaw7.ImapLast", spec := "imapLast", unfollowed := true, recurses := true, apart := false, narrowed := true }
def ImapLastUptoSaid : Prop := imapLastUptoRow.holds Try.pinned (OpenSpec.upto imapLastSpec)

/-- 'commonslaw7.ImapParts', WHERE WHAT IT READS IS OF BULK AT MOST 1048576: true; the input reads as it did. -/
def imapPartsUptoRow : OpenClaim := { program := "ytiokkoeciijkoaa", sum := "bd839dd34d742283df79cdaf048a2bd9c031ac10dbd972b087a83f6dbce395f3", func := "commons/commonslaw7.ImapParts", spec := "imapParts", unfollowed := true, recurses := true, apart := false, narrowed := true }
def ImapPartsUptoSaid : Prop := imapPartsUptoRow.holds Try.pinned (OpenSpec.upto imapPartsSpec)

/-- 'commonslaw7.ImapWith', WHERE WHAT IT READS IS OF BULK AT MOST 1048576: true; the input reads as it did. -/
def imapWithUptoRow : OpenClaim := { program := "ytiokkoeciijkoaa", sum := "bd839dd34d742283df79cdaf048a2bd9c031ac10dbd972b087a83f6dbce395f3", func := "commons/commonslaw7.ImapWith", spec := "imapWith", unfollowed := true, recurses := true, apart := false, narrowed := true }
def ImapWithUptoSaid : Prop := imapWithUptoRow.holds Try.pinned (OpenSpec.upto imapWithSpec)

/-- 'commonslaw7.ImapSwaps', WHERE WHAT IT READS IS OF BULK AT MOST 1048576: true; the input reads as it did. -/
def imapSwapsUptoRow : OpenClaim := { program := "ytiokkoeciijkoaa", sum := "bd839dd34d742283df79cdaf048a2bd9c031ac10dbd972b087a83f6dbce395f3", func := "commons/commonslaw7.ImapSwaps", spec := "imapSwaps", unfollowed := true, recurses := true, apart := false, narrowed := true }
def ImapSwapsUptoSaid : Prop := imapSwapsUptoRow.holds Try.pinned (OpenSpec.upto imapSwapsSpec)

/-- 'commonslaw7.ImapNone', WHERE WHAT IT READS IS OF BULK AT MOST 1048576: true; the input reads as it did. -/
def imapNoneUptoRow : OpenClaim := { program := "ytiokkoeciijkoaa", sum := "bd839dd34d742283df79cdaf048a2bd9c031ac10dbd972b087a83f6dbce395f3", func := "commons/commonslaw7.ImapNone", spec := "imapNone", unfollowed := true, recurses := true, apart := false, narrowed := true }
def ImapNoneUptoSaid : Prop := imapNoneUptoRow.holds Try.pinned (OpenSpec.upto imapNoneSpec)

/-- 'commonslaw17.ModeNorms', WHERE WHAT IT READS IS OF BULK AT MOST 1048576: true; the input reads as it did. -/
def modeNormsUptoRow : OpenClaim := { program := "ytiokkoeciijkoaa", sum := "bd839dd34d742283df79cdaf048a2bd9c031ac10dbd972b087a83f6dbce395f3", func := "commons/commonslaw17.ModeNorms", spec := "modeNorms", unfollowed := true, recurses := true, apart := false, narrowed := true }
def ModeNormsUptoSaid : Prop := modeNormsUptoRow.holds Try.pinned (OpenSpec.upto modeNormsSpec)

/-- 'commonslaw17.ModeTells', WHERE WHAT IT READS IS OF BULK AT MOST 1048576: true; the input reads as it did. -/
def modeTellsUptoRow : OpenClaim := { program := "ytiokkoeciijkoaa", sum := "bd839dd34d742283df79cdaf048a2bd9c031ac10dbd972b087a83f6dbce395f3", func := "commons/commonslaw17.ModeTells", spec := "modeTells", unfollowed := true, recurses := true, apart := false, narrowed := true }
def ModeTellsUptoSaid : Prop := modeTellsUptoRow.holds Try.pinned (OpenSpec.upto modeTellsSpec)

/-- 'commonslaw17.ModeOrder', WHERE WHAT IT READS IS OF BULK AT MOST 1048576: true; the input reads as it did. -/
def modeOrderUptoRow : OpenClaim := { program := "ytiokkoeciijkoaa", sum := "bd839dd34d742283df79cdaf048a2bd9c031ac10dbd972b087a83f6dbce395f3", func := "commons/commonslaw17.ModeOrder", spec := "modeOrder", unfollowed := true, recurses := true, apart := false, narrowed := true }
def ModeOrderUptoSaid : Prop := modeOrderUptoRow.holds Try.pinned (OpenSpec.upto modeOrderSpec)

/-- 'commonslaw17.ModeNone', WHERE WHAT IT READS IS OF BULK AT MOST 1048576: true; the input reads as it did. -/
def modeNoneUptoRow : OpenClaim := { program := "ytiokkoeciijkoaa", sum := "bd839dd34d742283df79cdaf048a2bd9c031ac10dbd972b087a83f6dbce395f3", func := "commons/commonslaw17.ModeNone", spec := "modeNone", unfollowed := true, recurses := true, apart := false, narrowed := true }
def ModeNoneUptoSaid : Prop := modeNoneUptoRow.holds Try.pinned (OpenSpec.upto modeNoneSpec)

/-- 'commonslaw17.ModeGives', WHERE WHAT IT READS IS OF BULK AT MOST 1048576: true; the input reads as it did. -/
def modeGivesUptoRow : OpenClaim := { program := "ytiokkoeciijkoaa", sum := "bd839dd34d742283df79cdaf048a2bd9c031ac10dbd972b087a83f6dbce395f3", func := "commons/commonslaw17.ModeGives", spec := "modeGives", unfollowed := true, recurses := true, apart := false, narrowed := true }
def ModeGivesUptoSaid : Prop := modeGivesUptoRow.holds Try.pinned (OpenSpec.upto modeGivesSpec)

/-- 'commonslaw18.TableUpgrades', WHERE WHAT IT READS IS OF BULK AT MOST 1048576: true; the input reads as it did. -/
def tableUpgradesUptoRow : OpenClaim := { program := "ytiokkoeciijkoaa", sum := "bd839dd34d742283df79cdaf048a2bd9c031ac10dbd972b087a83f6dbce395f3", func := "commons/commonslaw18.TableUpgrades", spec := "tableUpgrades", unfollowed := true, recurses := true, apart := false, narrowed := true }
def TableUpgradesUptoSaid : Prop := tableUpgradesUptoRow.holds Try.pinned (OpenSpec.upto tableUpgradesSpec)

/-- 'commonslaw18.TableClaims', WHERE WHAT IT READS IS OF BULK AT MOST 1048576: true; the input reads as it did. -/
def tableClaimsUptoRow : OpenClaim := { program := "ytiokkoeciijkoaa", sum := "bd839dd34d742283df79cdaf048a2bd9c031ac10dbd972b087a83f6dbce395f3", func := "commons/commonslaw18.TableClaims", spec := "tableClaims", unfollowed := true, recurses := true, apart := false, narrowed := true }
def TableClaimsUptoSaid : Prop := tableClaimsUptoRow.holds Try.pinned (OpenSpec.upto tableClaimsSpec)

/-- 'commonslaw18.TableFair', WHERE WHAT IT READS IS OF BULK AT MOST 1048576: true; the input reads as it did. -/
def tableFairUptoRow : OpenClaim := { program := "ytiokkoeciijkoaa", sum := "bd839dd34d742283df79cdaf048a2bd9c031ac10dbd972b087a83f6dbce395f3", func := "commons/commonslaw18.TableFair", spec := "tableFair", unfollowed := true, recurses := true, apart := false, narrowed := true }
def TableFairUptoSaid : Prop := tableFairUptoRow.holds Try.pinned (OpenSpec.upto tableFairSpec)

/-- 'commonslaw18.TableKeeps', WHERE WHAT IT READS IS OF BULK AT MOST 1048576: true; the input reads as it did. -/
def tableKeepsUptoRow : OpenClaim := { program := "ytiokkoeciijkoaa", sum := "bd839dd34d742283df79cdaf048a2bd9c031ac10dbd972b087a83f6dbce395f3", func := "commons/commonslaw18.TableKeeps", spec := "tableKeeps", unfollowed := true, recurses := true, apart := false, narrowed := true }
def TableKeepsUptoSaid : Prop := tableKeepsUptoRow.holds Try.pinned (OpenSpec.upto tableKeepsSpec)

/-- 'commonslaw18.TableNone', WHERE WHAT IT READS IS OF BULK AT MOST 1048576: true; the input reads as it did. -/
def tableNoneUptoRow : OpenClaim := { program := "ytiokkoeciijkoaa", sum := "bd839dd34d742283df79cdaf048a2bd9c031ac10dbd972b087a83f6dbce395f3", func := "commons/commonslaw18.TableNone", spec := "tableNone", unfollowed := true, recurses := true, apart := false, narrowed := true }
def TableNoneUptoSaid : Prop := tableNoneUptoRow.holds Try.pinned (OpenSpec.upto tableNoneSpec)

end Rows
end Go.Proofs.Ytiokkoeciijkoaa
