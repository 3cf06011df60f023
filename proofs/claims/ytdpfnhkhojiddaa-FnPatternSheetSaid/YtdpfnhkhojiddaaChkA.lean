/- Every sheet of four letters that begins with a given one: its corners, reckoned. No program. -/
import Derived.Test.YtdpfnhkhojiddaaSheet
namespace Go.Proofs.Ytdpfnhkhojiddaa
set_option maxRecDepth 100000
theorem chk4_82 : (textsN 3).all (fun t => chkB (82 :: t)) = true := by decide +kernel
theorem chk4_76 : (textsN 3).all (fun t => chkB (76 :: t)) = true := by decide +kernel
theorem chk0 : (textsN 0).all chkB = true := by decide +kernel
theorem chk1 : (textsN 1).all chkB = true := by decide +kernel
theorem chk2 : (textsN 2).all chkB = true := by decide +kernel
theorem chk3 : (textsN 3).all chkB = true := by decide +kernel
theorem chk5 : chkB [82, 85, 76, 68, 114] = true := by decide +kernel
end Go.Proofs.Ytdpfnhkhojiddaa
