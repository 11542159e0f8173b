/-
  NARROWER THAN 'FOR EVERY INPUT', by the rows' own cells (each row's printed sentence says how): StatLess: loops · StatCounts: loops.
  DERIVED. THE GIVEN ROWS OF THIS SEAT. 9 by the template 'for every input the law returns true; each argument reads behind the call as it read before'; 0 by the template 'total and deterministic' (their statements: YtpalbdjcfhlniaaTotals.lean).
  GIVEN WITH THE SEED: the statements are not yours to turn. If you find one false, say at which input.
  Laid BY PROGRAM, IN A SANDBOX (cutbox-rows.mjs): the forced cells as the released guide's own fill.sh prints them over the translation 639dbaffb8dab1e0… (all of the seat's roots in one cut). By AI agents, Wed Nov 11 2026. No macro, syntax, notation, axiom, sorry.
-/
import Derived.Test.YtpalbdjcfhlniaaChecked
import GoSem.Claim
import GoSem.ClaimJoined
import GoSem.ClaimMapViews
import Derived.JoinedTies
import Derived.KernelRfl
namespace Go.Proofs.Ytpalbdjcfhlniaa
/- THE CELL 'sum', in the pinned program and in every row, IS THE sha256 OF THE DUMP (.gsa) THAT YtpalbdjcfhlniaaProg.lean LOADS. Nothing in Lean hashes anything: it is a label: what it is worth is what the hold of that sum in a sandbox is worth. -/
noncomputable def Try.pinned : Pinned := { name := "ytpalbdjcfhlniaa", sum := "639dbaffb8dab1e02e29b998402d1c6101102f8290df677fb1a7fa2df89c2675", checked := Try.checked }
namespace Rows
def none {H : Type} : Left H := { results := [], args := [] }

/-- 'tomelaw49.LockPlays': WHATEVER THE INPUT: true; the input reads as it did. -/
def lockPlaysSpec : ChangeSpec := { name := "lockPlays", fn := fun _ => fun
  | [d1, d2, d3] => { results := [.lit (.bool true)], args := [d1, d2, d3] }
  | _ => none }
def lockPlaysRow : OpenClaim := { program := "ytpalbdjcfhlniaa", sum := "639dbaffb8dab1e02e29b998402d1c6101102f8290df677fb1a7fa2df89c2675", func := "tome/tomelaw49.LockPlays", spec := "lockPlays", apart := false }
def LockPlaysSaid : Prop := lockPlaysRow.holds Try.pinned (OpenSpec.ofChange lockPlaysSpec)

/-- ITS FALSE NEIGHBOUR: 'it returns false'. Refute it at one input. -/
def lockPlaysWrong : ChangeSpec := { name := "lockPlays", fn := fun _ => fun
  | [d1, d2, d3] => { results := [.lit (.bool false)], args := [d1, d2, d3] }
  | _ => none }
def LockPlaysWrongFalsely : Prop := lockPlaysRow.holds Try.pinned (OpenSpec.ofChange lockPlaysWrong)

/-- 'tomelaw49.LockWaits': WHATEVER THE INPUT: true; the input reads as it did. -/
def lockWaitsSpec : ChangeSpec := { name := "lockWaits", fn := fun _ => fun
  | [d1, d2] => { results := [.lit (.bool true)], args := [d1, d2] }
  | _ => none }
def lockWaitsRow : OpenClaim := { program := "ytpalbdjcfhlniaa", sum := "639dbaffb8dab1e02e29b998402d1c6101102f8290df677fb1a7fa2df89c2675", func := "tome/tomelaw49.LockWaits", spec := "lockWaits", apart := false }
def LockWaitsSaid : Prop := lockWaitsRow.holds Try.pinned (OpenSpec.ofChange lockWaitsSpec)

/-- ITS FALSE NEIGHBOUR: 'it returns false'. Refute it at one input. -/
def lockWaitsWrong : ChangeSpec := { name := "lockWaits", fn := fun _ => fun
  | [d1, d2] => { results := [.lit (.bool false)], args := [d1, d2] }
  | _ => none }
def LockWaitsWrongFalsely : Prop := lockWaitsRow.holds Try.pinned (OpenSpec.ofChange lockWaitsWrong)

/-- 'tomelaw49.LockAlone': WHATEVER THE INPUT: true; the input reads as it did. -/
def lockAloneSpec : ChangeSpec := { name := "lockAlone", fn := fun _ => fun
  | [d1, d2] => { results := [.lit (.bool true)], args := [d1, d2] }
  | _ => none }
def lockAloneRow : OpenClaim := { program := "ytpalbdjcfhlniaa", sum := "639dbaffb8dab1e02e29b998402d1c6101102f8290df677fb1a7fa2df89c2675", func := "tome/tomelaw49.LockAlone", spec := "lockAlone", apart := false }
def LockAloneSaid : Prop := lockAloneRow.holds Try.pinned (OpenSpec.ofChange lockAloneSpec)

/-- ITS FALSE NEIGHBOUR: 'it returns false'. Refute it at one input. -/
def lockAloneWrong : ChangeSpec := { name := "lockAlone", fn := fun _ => fun
  | [d1, d2] => { results := [.lit (.bool false)], args := [d1, d2] }
  | _ => none }
def LockAloneWrongFalsely : Prop := lockAloneRow.holds Try.pinned (OpenSpec.ofChange lockAloneWrong)

/-- 'tomelaw49.LockCopies': WHATEVER THE INPUT: true; the input reads as it did. -/
def lockCopiesSpec : ChangeSpec := { name := "lockCopies", fn := fun _ => fun
  | [d1, d2, d3, d4, d5] => { results := [.lit (.bool true)], args := [d1, d2, d3, d4, d5] }
  | _ => none }
def lockCopiesRow : OpenClaim := { program := "ytpalbdjcfhlniaa", sum := "639dbaffb8dab1e02e29b998402d1c6101102f8290df677fb1a7fa2df89c2675", func := "tome/tomelaw49.LockCopies", spec := "lockCopies", apart := false }
def LockCopiesSaid : Prop := lockCopiesRow.holds Try.pinned (OpenSpec.ofChange lockCopiesSpec)

/-- ITS FALSE NEIGHBOUR: 'it returns false'. Refute it at one input. -/
def lockCopiesWrong : ChangeSpec := { name := "lockCopies", fn := fun _ => fun
  | [d1, d2, d3, d4, d5] => { results := [.lit (.bool false)], args := [d1, d2, d3, d4, d5] }
  | _ => none }
def LockCopiesWrongFalsely : Prop := lockCopiesRow.holds Try.pinned (OpenSpec.ofChange lockCopiesWrong)

/-- 'tomelaw38.StatGuesses': WHATEVER THE INPUT: true; the input reads as it did. -/
def statGuessesSpec : ChangeSpec := { name := "statGuesses", fn := fun _ => fun
  | [d1, d2, d3, d4] => { results := [.lit (.bool true)], args := [d1, d2, d3, d4] }
  | _ => none }
def statGuessesRow : OpenClaim := { program := "ytpalbdjcfhlniaa", sum := "639dbaffb8dab1e02e29b998402d1c6101102f8290df677fb1a7fa2df89c2675", func := "tome/tomelaw38.StatGuesses", spec := "statGuesses", unfollowed := true, recurses := true, apart := false }
def StatGuessesSaid : Prop := statGuessesRow.holds Try.pinned (OpenSpec.ofChange statGuessesSpec)

/-- ITS FALSE NEIGHBOUR: 'it returns false'. Refute it at one input. -/
def statGuessesWrong : ChangeSpec := { name := "statGuesses", fn := fun _ => fun
  | [d1, d2, d3, d4] => { results := [.lit (.bool false)], args := [d1, d2, d3, d4] }
  | _ => none }
def StatGuessesWrongFalsely : Prop := statGuessesRow.holds Try.pinned (OpenSpec.ofChange statGuessesWrong)

/-- 'tomelaw38.StatLess': WHATEVER THE INPUT: true; the input reads as it did. -/
def statLessSpec : ChangeSpec := { name := "statLess", fn := fun _ => fun
  | [d1, d2] => { results := [.lit (.bool true)], args := [d1, d2] }
  | _ => none }
def statLessRow : OpenClaim := { program := "ytpalbdjcfhlniaa", sum := "639dbaffb8dab1e02e29b998402d1c6101102f8290df677fb1a7fa2df89c2675", func := "tome/tomelaw38.StatLess", spec := "statLess", unfollowed := true, recurses := true, loops := true, apart := false }
def StatLessSaid : Prop := statLessRow.holds Try.pinned (OpenSpec.ofChange statLessSpec)

/-- ITS FALSE NEIGHBOUR: 'it returns false'. Refute it at one input. -/
def statLessWrong : ChangeSpec := { name := "statLess", fn := fun _ => fun
  | [d1, d2] => { results := [.lit (.bool false)], args := [d1, d2] }
  | _ => none }
def StatLessWrongFalsely : Prop := statLessRow.holds Try.pinned (OpenSpec.ofChange statLessWrong)

/-- 'tomelaw38.StatCounts': WHATEVER THE INPUT: true; the input reads as it did. -/
def statCountsSpec : ChangeSpec := { name := "statCounts", fn := fun _ => fun
  | [d] => { results := [.lit (.bool true)], args := [d] }
  | _ => none }
def statCountsRow : OpenClaim := { program := "ytpalbdjcfhlniaa", sum := "639dbaffb8dab1e02e29b998402d1c6101102f8290df677fb1a7fa2df89c2675", func := "tome/tomelaw38.StatCounts", spec := "statCounts", unfollowed := true, recurses := true, loops := true, apart := false }
def StatCountsSaid : Prop := statCountsRow.holds Try.pinned (OpenSpec.ofChange statCountsSpec)

/-- ITS FALSE NEIGHBOUR: 'it returns false'. Refute it at one input. -/
def statCountsWrong : ChangeSpec := { name := "statCounts", fn := fun _ => fun
  | [d] => { results := [.lit (.bool false)], args := [d] }
  | _ => none }
def StatCountsWrongFalsely : Prop := statCountsRow.holds Try.pinned (OpenSpec.ofChange statCountsWrong)

/-- 'tomelaw38.StatRows': WHATEVER THE INPUT: true; the input reads as it did. -/
def statRowsSpec : ChangeSpec := { name := "statRows", fn := fun _ => fun
  | [d] => { results := [.lit (.bool true)], args := [d] }
  | _ => none }
def statRowsRow : OpenClaim := { program := "ytpalbdjcfhlniaa", sum := "639dbaffb8dab1e02e29b998402d1c6101102f8290df677fb1a7fa2df89c2675", func := "tome/tomelaw38.StatRows", spec := "statRows", unfollowed := true, recurses := true, apart := false }
def StatRowsSaid : Prop := statRowsRow.holds Try.pinned (OpenSpec.ofChange statRowsSpec)

/-- ITS FALSE NEIGHBOUR: 'it returns false'. Refute it at one input. -/
def statRowsWrong : ChangeSpec := { name := "statRows", fn := fun _ => fun
  | [d] => { results := [.lit (.bool false)], args := [d] }
  | _ => none }
def StatRowsWrongFalsely : Prop := statRowsRow.holds Try.pinned (OpenSpec.ofChange statRowsWrong)

/-- 'tomelaw38.StatReads': WHATEVER THE INPUT: true; the input reads as it did. -/
def statReadsSpec : ChangeSpec := { name := "statReads", fn := fun _ => fun
  | [d] => { results := [.lit (.bool true)], args := [d] }
  | _ => none }
def statReadsRow : OpenClaim := { program := "ytpalbdjcfhlniaa", sum := "639dbaffb8dab1e02e29b998402d1c6101102f8290df677fb1a7fa2df89c2675", func := "tome/tomelaw38.StatReads", spec := "statReads", unfollowed := true, recurses := true, apart := false }
def StatReadsSaid : Prop := statReadsRow.holds Try.pinned (OpenSpec.ofChange statReadsSpec)

/-- ITS FALSE NEIGHBOUR: 'it returns false'. Refute it at one input. -/
def statReadsWrong : ChangeSpec := { name := "statReads", fn := fun _ => fun
  | [d] => { results := [.lit (.bool false)], args := [d] }
  | _ => none }
def StatReadsWrongFalsely : Prop := statReadsRow.holds Try.pinned (OpenSpec.ofChange statReadsWrong)

/- THE SECOND FORM. 'bulk': how many values and letters a reading holds, each counted each time it is reached (what is shared counts as often as it is met; a slice's spare places count too). A statement '..UptoSaid' is the law's where the arguments, and the package variables that the reading takes, are together of bulk at most 1048576: NARROWER than '..Said'. Prove '..Said' where nothing that the law and all that it calls make is longer than what came in: it says more and counts as full. Else prove '..UptoSaid'. A law counts once. -/
mutual
def uptoBulk {H : Type} : DataW H → Nat
  | .lit (.string bytes) => bytes.length + 1
  | .lit _ => 1
  | .nil => 1
  | .ptr d => uptoBulk d + 1
  | .slice elems spare => uptoBulkAll elems + uptoBulkAll spare + 1
  | .agg parts => uptoBulkAll parts + 1
  | .iface _ d => uptoBulk d + 1
  | .map entries => uptoBulkEntries entries + 1
  | .held _ => 1
def uptoBulkAll {H : Type} : List (DataW H) → Nat
  | [] => 0
  | d :: r => uptoBulk d + uptoBulkAll r
def uptoBulkEntries {H : Type} : List (Lit × DataW H) → Nat
  | [] => 0
  | x :: r => uptoBulkEntry x + uptoBulkEntries r
def uptoBulkEntry {H : Type} : Lit × DataW H → Nat
  | (.string bytes, d) => bytes.length + uptoBulk d + 1
  | (_, d) => uptoBulk d + 1
 end
def uptoSmall : (H : Type) → List (DataW H) → Bool := fun _ ds => decide (uptoBulkAll ds ≤ 1048576)
def OpenSpec.upto (s : _root_.Go.ChangeSpec) : _root_.Go.OpenSpec := { _root_.Go.OpenSpec.ofChange s with cond := some uptoSmall }

/-- 'tomelaw49.LockPlays', WHERE WHAT IT READS IS OF BULK AT MOST 1048576: true; the input reads as it did. -/
def lockPlaysUptoRow : OpenClaim := { program := "ytpalbdjcfhlniaa", sum := "639dbaffb8dab1e02e29b998402d1c6101102f8290df677fb1a7fa2df89c2675", func := "tome/tomelaw49.LockPlays", spec := "lockPlays", apart := false, narrowed := true }
def LockPlaysUptoSaid : Prop := lockPlaysUptoRow.holds Try.pinned (OpenSpec.upto lockPlaysSpec)

/-- 'tomelaw49.LockWaits', WHERE WHAT IT READS IS OF BULK AT MOST 1048576: true; the input reads as it did. -/
def lockWaitsUptoRow : OpenClaim := { program := "ytpalbdjcfhlniaa", sum := "639dbaffb8dab1e02e29b998402d1c6101102f8290df677fb1a7fa2df89c2675", func := "tome/tomelaw49.LockWaits", spec := "lockWaits", apart := false, narrowed := true }
def LockWaitsUptoSaid : Prop := lockWaitsUptoRow.holds Try.pinned (OpenSpec.upto lockWaitsSpec)

/-- 'tomelaw49.LockAlone', WHERE WHAT IT READS IS OF BULK AT MOST 1048576: true; the input reads as it did. -/
def lockAloneUptoRow : OpenClaim := { program := "ytpalbdjcfhlniaa", sum := "639dbaffb8dab1e02e29b998402d1c6101102f8290df677fb1a7fa2df89c2675", func := "tome/tomelaw49.LockAlone", spec := "lockAlone", apart := false, narrowed := true }
def LockAloneUptoSaid : Prop := lockAloneUptoRow.holds Try.pinned (OpenSpec.upto lockAloneSpec)

/-- 'tomelaw49.LockCopies', WHERE WHAT IT READS IS OF BULK AT MOST 1048576: true; the input reads as it did. -/
def lockCopiesUptoRow : OpenClaim := { program := "ytpalbdjcfhlniaa", sum := "639dbaffb8dab1e02e29b998402d1c6101102f8290df677fb1a7fa2df89c2675", func := "tome/tomelaw49.LockCopies", spec := "lockCopies", apart := false, narrowed := true }
def LockCopiesUptoSaid : Prop := lockCopiesUptoRow.holds Try.pinned (OpenSpec.upto lockCopiesSpec)

/-- 'tomelaw38.StatGuesses', WHERE WHAT IT READS IS OF BULK AT MOST 1048576: true; the input reads as it did. -/
def statGuessesUptoRow : OpenClaim := { program := "ytpalbdjcfhlniaa", sum := "639dbaffb8dab1e02e29b998402d1c6101102f8290df677fb1a7fa2df89c2675", func := "tome/tomelaw38.StatGuesses", spec := "statGuesses", unfollowed := true, recurses := true, apart := false, narrowed := true }
def StatGuessesUptoSaid : Prop := statGuessesUptoRow.holds Try.pinned (OpenSpec.upto statGuessesSpec)

/-- 'tomelaw38.StatLess', WHERE WHAT IT READS IS OF BULK AT MOST 1048576: true; the input reads as it did. -/
def statLessUptoRow : OpenClaim := { program := "ytpalbdjcfhlniaa", sum := "639dbaffb8dab1e02e29b998402d1c6101102f8290df677fb1a7fa2df89c2675", func := "tome/tomelaw38.StatLess", spec := "statLess", unfollowed := true, recurses := true, loops := true, apart := false, narrowed := true }
def StatLessUptoSaid : Prop := statLessUptoRow.holds Try.pinned (OpenSpec.upto statLessSpec)

/-- 'tomelaw38.StatCounts', WHERE WHAT IT READS IS OF BULK AT MOST 1048576: true; the input reads as it did. -/
def statCountsUptoRow : OpenClaim := { program := "ytpalbdjcfhlniaa", sum := "639dbaffb8dab1e02e29b998402d1c6101102f8290df677fb1a7fa2df89c2675", func := "tome/tomelaw38.StatCounts", spec := "statCounts", unfollowed := true, recurses := true, loops := true, apart := false, narrowed := true }
def StatCountsUptoSaid : Prop := statCountsUptoRow.holds Try.pinned (OpenSpec.upto statCountsSpec)

/-- 'tomelaw38.StatRows', WHERE WHAT IT READS IS OF BULK AT MOST 1048576: true; the input reads as it did. -/
def statRowsUptoRow : OpenClaim := { program := "ytpalbdjcfhlniaa", sum := "639dbaffb8dab1e02e29b998402d1c6101102f8290df677fb1a7fa2df89c2675", func := "tome/tomelaw38.StatRows", spec := "statRows", unfollowed := true, recurses := true, apart := false, narrowed := true }
def StatRowsUptoSaid : Prop := statRowsUptoRow.holds Try.pinned (OpenSpec.upto statRowsSpec)

/-- 'tomelaw38.StatReads', WHERE WHAT IT READS IS OF BULK AT MOST 1048576: true; the input reads as it did. -/
def statReadsUptoRow : OpenClaim := { program := "ytpalbdjcfhlniaa", sum := "639dbaffb8dab1e02e29b998402d1c6101102f8290df677fb1a7fa2df89c2675", func := "tome/tomelaw38.StatReads", spec := "statReads", unfollowed := true, recurses := true, apart := false, narrowed := true }
def StatReadsUptoSaid : Prop := statReadsUptoRow.holds Try.pinned (OpenSpec.upto statReadsSpec)

end Rows
end Go.Proofs.Ytpalbdjcfhlniaa
