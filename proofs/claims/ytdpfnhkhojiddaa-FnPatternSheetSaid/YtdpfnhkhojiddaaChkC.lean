/- Every sheet of four letters that begins with a given one: its corners, reckoned. No program. -/
import Derived.Test.YtdpfnhkhojiddaaSheet
namespace Go.Proofs.Ytdpfnhkhojiddaa
set_option maxRecDepth 100000
theorem chk4_85 : (textsN 3).all (fun t => chkB (85 :: t)) = true := by decide +kernel
theorem chk4_68 : (textsN 3).all (fun t => chkB (68 :: t)) = true := by decide +kernel
end Go.Proofs.Ytdpfnhkhojiddaa
