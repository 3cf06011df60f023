/- Every sheet of four letters that begins with a given one: its corners, reckoned. No program. -/
import Derived.Test.YtdpfnhkhojiddaaSheet
namespace Go.Proofs.Ytdpfnhkhojiddaa
set_option maxRecDepth 100000
theorem chk4_117 : (textsN 3).all (fun t => chkB (117 :: t)) = true := by decide +kernel
theorem chk4_100 : (textsN 3).all (fun t => chkB (100 :: t)) = true := by decide +kernel
end Go.Proofs.Ytdpfnhkhojiddaa
