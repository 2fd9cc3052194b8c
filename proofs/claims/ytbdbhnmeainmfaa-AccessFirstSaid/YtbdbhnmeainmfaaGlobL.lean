/-
  The walk through the examples of chapter 3 (live), and through the law GlobChecks.
-/
import Derived.Test.YtbdbhnmeainmfaaGlobF
namespace Go.Proofs.Ytbdbhnmeainmfaa
open Go.RowKit